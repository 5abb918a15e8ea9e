/- THIS TEXT PROVES A PART OF A CALCULUS THAT TELLS WHAT A LOADED GO FUNCTION DOES WITHOUT NAMING MEMORY: each rule is proved against the machine, for every program and every world; its conditions stand in each theorem. -/
import Derived.OrdersIn
import Derived.RangeFuncIn
import Derived.RangeFuncRecord
import Derived.RangeFuncCalls
import Derived.Sort.LoopGhostIn
import Derived.Test.YtmnjbnkenfefaaaLeAM1
set_option linter.unusedVariables false
set_option linter.unusedSimpArgs false
namespace Go.Abs

variable {P : Program} {base : Nat} {σ : St} {key : Nat} {ρ : SArg → AV} {β : Bool}

@[simp] theorem ap_pure (d : Nat) (v : AV) : σ.ap (some d) (Eff.pure v) = σ.set d v := rfl
@[simp] theorem ap_look (d : Nat) (v : AV) (l : List Nat) : σ.ap (some d) (Eff.look v l) = σ.set d v := rfl
@[simp] theorem pure_val (v : AV) : (Eff.pure v).val = v := rfl
@[simp] theorem pure_pur (v : AV) : (Eff.pure v).pur = [] := rfl
@[simp] theorem pure_put (v : AV) : (Eff.pure v).put = [] := rfl
@[simp] theorem pure_rd (v : AV) : (Eff.pure v).rd = [] := rfl
@[simp] theorem look_val (v : AV) (l : List Nat) : (Eff.look v l).val = v := rfl
@[simp] theorem look_pur (v : AV) (l : List Nat) : (Eff.look v l).pur = [] := rfl
@[simp] theorem look_put (v : AV) (l : List Nat) : (Eff.look v l).put = [] := rfl
@[simp] theorem look_rd (v : AV) (l : List Nat) : (Eff.look v l).rd = l := rfl

/-! ### cells -/
@[simp] theorem cellsOf_agg (cs : List Cell) : cellsOf (.agg cs) = some cs := rfl
@[simp] theorem cellsOf_v (v : Value) : cellsOf (.c (.v v)) = some [.v v] := rfl
@[simp] theorem cellsOf_sl (sz bs : Nat) (es : List (List Cell)) : cellsOf (.c (.sl sz bs es)) = some [.sl sz bs es] := rfl
@[simp] theorem cellsOf_cap (sz bs : Nat) (es : List (List Cell)) : cellsOf (.c (.cap sz bs es)) = some [.cap sz bs es] := rfl
@[simp] theorem cellsOf_own (k t : Nat) : cellsOf (.c (.own k t)) = some [.own k t] := rfl
@[simp] theorem cellsOf_ref (k t off : Nat) : cellsOf (.c (.ref k t off)) = some [.ref k t off] := rfl
@[simp] theorem cellsOf_clo (f : Nat) (a b : List (Nat × Nat)) : cellsOf (.c (.clo f a b)) = some [.clo f a b] := rfl
@[simp] theorem putC_nil (cs xs : List Cell) : putC cs 0 xs = xs ++ cs.drop xs.length := by simp [putC]
@[simp] theorem putC_succ (c : Cell) (cs xs : List Cell) (n : Nat) : putC (c :: cs) (n + 1) xs = c :: putC cs n xs := by simp [putC, Nat.add_right_comm]
@[simp] theorem putC_1 (c : Cell) (cs xs : List Cell) : putC (c :: cs) 1 xs = c :: putC cs 0 xs := putC_succ c cs xs 0
@[simp] theorem putC_2 (c d : Cell) (cs xs : List Cell) : putC (c :: d :: cs) 2 xs = c :: d :: putC cs 0 xs := by rw [putC_succ c _ xs 1, putC_1]
@[simp] theorem putC_3 (c d e : Cell) (cs xs : List Cell) : putC (c :: d :: e :: cs) 3 xs = c :: d :: e :: putC cs 0 xs := by rw [putC_succ c _ xs 2, putC_2]
@[simp] theorem putC_4 (c d e f : Cell) (cs xs : List Cell) : putC (c :: d :: e :: f :: cs) 4 xs = c :: d :: e :: f :: putC cs 0 xs := by rw [putC_succ c _ xs 3, putC_3]
@[simp] theorem fillC_nil (cs : List Cell) : fillC cs [] = cs := rfl
@[simp] theorem fillC_cons (cs xs : List Cell) (off : Nat) (r : List (Nat × List Cell)) : fillC cs ((off, xs) :: r) = fillC (putC cs off xs) r := rfl
@[simp] theorem toD_v (v : Value) : toD σ (.v v) = .v v := rfl
@[simp] theorem toD_sl (sz bs : Nat) (es : List (List Cell)) : toD σ (.sl sz bs es) = .sl sz bs es := rfl
@[simp] theorem toD_cap (sz bs : Nat) (es : List (List Cell)) : toD σ (.cap sz bs es) = .sl sz bs es := rfl
@[simp] theorem toD_ref (k t off : Nat) : toD σ (.ref k t off) = .ref k t off := rfl
@[simp] theorem toD_clo (f : Nat) (a b : List (Nat × Nat)) : toD σ (.clo f a b) = .clo f a b := rfl
def ownD (k t : Nat) : Option Obj → Cell
  | some (.row _ sz bs es) => .sl sz bs es
  | _ => .own k t
@[simp] theorem toD_own (k t : Nat) : toD σ (.own k t) = if t = σ.tg k then ownD k t (σ.ob k) else .own k t := rfl
@[simp] theorem ownD_row (k t ty sz bs : Nat) (es : List (List Cell)) : ownD k t (some (.row ty sz bs es)) = .sl sz bs es := rfl
@[simp] theorem ownD_mrow (k t ty sz bs : Nat) (es : List (List Cell)) : ownD k t (some (.mrow ty sz bs es)) = .own k t := rfl
@[simp] theorem toD2_c (x : Cell) : toD2 σ (.c x) = .c (toD σ x) := rfl
@[simp] theorem toD2_agg (x : List Cell) : toD2 σ (.agg x) = .agg (x.map (toD σ)) := rfl
@[simp] theorem toD2_tup (x : List AV) : toD2 σ (.tup x) = .tup x := rfl
@[simp] theorem plain_v (v : Value) : Cell.plain (.v v) = .v v := rfl
@[simp] theorem plain_cap (sz bs : Nat) (es : List (List Cell)) : Cell.plain (.cap sz bs es) = .sl sz bs es := rfl
@[simp] theorem isD_v (v : Value) : Cell.isD (.v v) = true := rfl
@[simp] theorem isD_sl (sz bs : Nat) (es : List (List Cell)) : Cell.isD (.sl sz bs es) = true := rfl

/-! ### simple operations -/
@[simp] theorem ev1_mv (x : SArg) : ev1 key ρ σ (.mv x) = some (.pure (un (ρ x))) := rfl
@[simp] theorem cond_mv (x : SArg) : cond β ρ σ (.mv x) = gok β (ρ x) := rfl
def pickE (c x y : AV) : Option Eff := match c with
  | .c (.v (.bool t)) => some (.pure (pickv t x y))
  | _ => none
@[simp] theorem ev1_pick (c a b : SArg) : ev1 key ρ σ (.pick c a b) = pickE (un (ρ c)) (un (ρ a)) (un (ρ b)) := by
  rfl
@[simp] theorem pickE_b (t : Bool) (x y : AV) : pickE (.c (.v (.bool t))) x y = some (.pure (pickv t x y)) := rfl
def pickC (β : Bool) (c x y : AV) : Prop := match c with
  | .c (.v (.bool t)) => gok (β && t) x ∧ gok (β && !t) y
  | _ => True
@[simp] theorem cond_pick (c a b : SArg) : cond β ρ σ (.pick c a b) = (gok β (ρ c) ∧ pickC β (un (ρ c)) (ρ a) (ρ b)) := by
  rfl
@[simp] theorem pickC_b (t : Bool) (x y : AV) : pickC β (.c (.v (.bool t))) x y = (gok (β && t) x ∧ gok (β && !t) y) := rfl
@[simp] theorem pickv_b (t p q : Bool) : pickv t (.c (.v (.bool p))) (.c (.v (.bool q))) = .c (.v (.bool (bif t then p else q))) := rfl
def boxE (key t ty : Nat) : Option (List Cell) → Option Eff
  | some cs => some ⟨.c (.ref key (t + 1) 0), [key], [(key, .box ty cs)], keysCs cs⟩
  | none => none
@[simp] theorem ev1_box (ty : Nat) (x : SArg) : ev1 key ρ σ (.box ty x) = boxE key (σ.tg key) ty (cellsOf (un (ρ x))) := by
  simp only [ev1]; unfold boxE; cases cellsOf (un (ρ x)) <;> rfl
@[simp] theorem boxE_some (t ty : Nat) (cs : List Cell) : boxE key t ty (some cs) = some ⟨.c (.ref key (t + 1) 0), [key], [(key, .box ty cs)], keysCs cs⟩ := rfl
@[simp] theorem cond_box (ty : Nat) (x : SArg) : cond β ρ σ (.box ty x) = gok β (ρ x) := rfl
@[simp] theorem ev1_alloc (ty : Nat) (zs : List Cell) : ev1 key ρ σ (.alloc ty zs) = some ⟨.c (.ref key (σ.tg key + 1) 0), [key], [(key, .box ty zs)], []⟩ := rfl
@[simp] theorem cond_alloc (ty : Nat) (zs : List Cell) : cond β ρ σ (.alloc ty zs) = True := rfl
def buildE (zs : List Cell) : Option (List (Nat × List Cell)) → Option Eff
  | some l => some (.pure (.agg (fillC zs l)))
  | none => none
@[simp] theorem ev1_build (ty : Nat) (zs : List Cell) (ps : List (Nat × Nat × Nat × SArg)) : ev1 key ρ σ (.build ty zs ps) = buildE zs (partCs ρ ps) := by
  simp only [ev1]; unfold buildE; cases partCs ρ ps <;> rfl
@[simp] theorem buildE_some (zs : List Cell) (l : List (Nat × List Cell)) : buildE zs (some l) = some (.pure (.agg (fillC zs l))) := rfl
def partK (off : Nat) : Option (List Cell) → Option (List (Nat × List Cell)) → Option (List (Nat × List Cell))
  | some cs, some l => some ((off, cs) :: l)
  | _, _ => none
@[simp] theorem partCs_nil : partCs ρ [] = some [] := rfl
@[simp] theorem partCs_cons (i off m : Nat) (x : SArg) (r : List (Nat × Nat × Nat × SArg)) : partCs ρ ((i, off, m, x) :: r) = partK off (cellsOf (un (ρ x))) (partCs ρ r) := by
  simp only [partCs]; unfold partK; cases cellsOf (un (ρ x)) <;> cases partCs ρ r <;> rfl
@[simp] theorem partK_some (off : Nat) (cs : List Cell) (l : List (Nat × List Cell)) : partK off (some cs) (some l) = some ((off, cs) :: l) := rfl
def partC1 (zs : List Cell) (off m : Nat) : Option (List Cell) → Prop
  | some cs => cs.length = m ∧ off + m ≤ zs.length
  | none => True
def partC (β : Bool) (ρ : SArg → AV) (zs : List Cell) : List (Nat × Nat × Nat × SArg) → Prop
  | [] => True
  | p :: r => gok β (ρ p.2.2.2) ∧ partC1 zs p.2.1 p.2.2.1 (cellsOf (un (ρ p.2.2.2))) ∧ partC β ρ zs r
theorem partC_spec {zs : List Cell} : ∀ {ps : List (Nat × Nat × Nat × SArg)}, partC β ρ zs ps → (∀ p, p ∈ ps → gok β (ρ p.2.2.2)) ∧ ∀ p, p ∈ ps → ∀ cs, cellsOf (un (ρ p.2.2.2)) = some cs → cs.length = p.2.2.1 ∧ p.2.1 + p.2.2.1 ≤ zs.length
  | [], _ => ⟨by simp, by simp⟩
  | p :: r, h => by
    obtain ⟨h1, h2, h3⟩ := h
    obtain ⟨h4, h5⟩ := partC_spec h3
    refine ⟨fun q hq => ?_, fun q hq cs hcs => ?_⟩
    · rcases List.mem_cons.1 hq with rfl | hq
      · exact h1
      · exact h4 q hq
    · rcases List.mem_cons.1 hq with rfl | hq
      · rw [hcs] at h2; exact h2
      · exact h5 q hq cs hcs
theorem partC_of {zs : List Cell} : ∀ {ps : List (Nat × Nat × Nat × SArg)}, (∀ p, p ∈ ps → gok β (ρ p.2.2.2)) → (∀ p, p ∈ ps → ∀ cs, cellsOf (un (ρ p.2.2.2)) = some cs → cs.length = p.2.2.1 ∧ p.2.1 + p.2.2.1 ≤ zs.length) → partC β ρ zs ps
  | [], _, _ => trivial
  | p :: r, h1, h2 => by
    refine ⟨h1 p (by simp), ?_, partC_of (fun q hq => h1 q (by simp [hq])) fun q hq => h2 q (by simp [hq])⟩
    cases hc : cellsOf (un (ρ p.2.2.2)) with
    | none => trivial
    | some cs => exact h2 p (by simp) cs hc
@[simp] theorem cond_build (ty : Nat) (zs : List Cell) (ps : List (Nat × Nat × Nat × SArg)) : cond β ρ σ (.build ty zs ps) = partC β ρ zs ps := propext ⟨fun h => partC_of h.1 h.2, fun h => partC_spec h⟩
@[simp] theorem partC_nil (zs : List Cell) : partC β ρ zs [] = True := rfl
@[simp] theorem partC_cons (zs : List Cell) (i off m : Nat) (x : SArg) (r : List (Nat × Nat × Nat × SArg)) : partC β ρ zs ((i, off, m, x) :: r) = (gok β (ρ x) ∧ partC1 zs off m (cellsOf (un (ρ x))) ∧ partC β ρ zs r) := rfl
@[simp] theorem partC1_some (zs cs : List Cell) (off m : Nat) : partC1 zs off m (some cs) = (cs.length = m ∧ off + m ≤ zs.length) := rfl

/-! ### loads -/
def ld1C (k : Nat) : Option Cell → Option Eff
  | some c => some (.look (.c c) [k])
  | none => none
def ld1O (k off : Nat) : Option Obj → Option Eff
  | some (.box _ cs) => ld1C k cs[off]?
  | _ => none
def ldnO (k off n : Nat) : Option Obj → Option Eff
  | some (.box _ cs) => if off + n ≤ cs.length then some (.look (.agg ((cs.drop off).take n)) [k]) else none
  | _ => none
@[simp] theorem ev1_ld1 (ty : Nat) (x : SArg) : ev1 key ρ σ (.ld1 ty x) = loadAt σ true 0 (un (ρ x)) := rfl
@[simp] theorem ev1_ldn (ty n : Nat) (x : SArg) : ev1 key ρ σ (.ldn ty n x) = loadAt σ false n (un (ρ x)) := rfl
@[simp] theorem cond_ld1 (ty : Nat) (x : SArg) : cond β ρ σ (.ld1 ty x) = gok β (ρ x) := rfl
@[simp] theorem cond_ldn (ty n : Nat) (x : SArg) : cond β ρ σ (.ldn ty n x) = gok β (ρ x) := rfl
@[simp] theorem ld1C_some (k : Nat) (c : Cell) : ld1C k (some c) = some (.look (.c c) [k]) := rfl
@[simp] theorem ld1O_box (k off ty : Nat) (cs : List Cell) : ld1O k off (some (.box ty cs)) = ld1C k cs[off]? := rfl
@[simp] theorem ldnO_box (k off n ty : Nat) (cs : List Cell) : ldnO k off n (some (.box ty cs)) = if off + n ≤ cs.length then some (.look (.agg ((cs.drop off).take n)) [k]) else none := rfl
@[simp] theorem loadAt_ref1 (m k t off : Nat) : loadAt σ true m (.c (.ref k t off)) = if t = σ.tg k then ld1O k off (σ.ob k) else none := by
  simp only [loadAt]; split
  · unfold ld1O; split
    · rename_i e; rw [e]; simp only [if_true]; unfold ld1C; split <;> simp_all
    · rename_i h; split
      · rename_i e; exact absurd e (h _ _)
      · rfl
  · rfl
@[simp] theorem loadAt_refn (m k t off : Nat) : loadAt σ false m (.c (.ref k t off)) = if t = σ.tg k then ldnO k off m (σ.ob k) else none := by
  simp only [loadAt]; split
  · unfold ldnO; split
    · rename_i e; rw [e]; simp
    · rename_i h; split
      · rename_i e; exact absurd e (h _ _)
      · rfl
  · rfl
def ld1P : Option Cell → Option Eff
  | some c => some (.pure (.c c))
  | none => none
@[simp] theorem ld1P_some (c : Cell) : ld1P (some c) = some (.pure (.c c)) := rfl
@[simp] theorem loadAt_elp1 (m j : Nat) (cs : List Cell) : loadAt σ true m (.c (.elp cs j)) = ld1P cs[j]? := by
  simp only [loadAt, if_true]; unfold ld1P; split <;> simp_all
@[simp] theorem loadAt_elpn (m j : Nat) (cs : List Cell) : loadAt σ false m (.c (.elp cs j)) = if j + m ≤ cs.length then some (.pure (.agg ((cs.drop j).take m))) else none := by
  simp [loadAt]
def elwO (sz i : Nat) : Option Obj → Option (List Cell)
  | some (.mrow _ sz' _ es) => if sz = sz' then es[i]? else none
  | _ => none
def ld1W (k j : Nat) : Option (List Cell) → Option Eff
  | some cs => ld1C k cs[j]?
  | none => none
def ldnW (k j n : Nat) : Option (List Cell) → Option Eff
  | some cs => if j + n ≤ cs.length then some (.look (.agg ((cs.drop j).take n)) [k]) else none
  | none => none
@[simp] theorem elwO_mrow (sz i ty sz' bs : Nat) (es : List (List Cell)) : elwO sz i (some (.mrow ty sz' bs es)) = if sz = sz' then es[i]? else none := rfl
@[simp] theorem ld1W_some (k j : Nat) (cs : List Cell) : ld1W k j (some cs) = ld1C k cs[j]? := rfl
@[simp] theorem ldnW_some (k j n : Nat) (cs : List Cell) : ldnW k j n (some cs) = if j + n ≤ cs.length then some (.look (.agg ((cs.drop j).take n)) [k]) else none := rfl
@[simp] theorem loadAt_elw1 (m k t sz i j : Nat) : loadAt σ true m (.c (.elw k t sz i j)) = if t = σ.tg k then ld1W k j (elwO sz i (σ.ob k)) else none := by
  simp only [loadAt]; split
  · unfold elwO; split
    · rename_i e; rw [e]; simp only [if_true]
      split
      · split
        · rename_i e1; simp only [e1, ld1W]; unfold ld1C; split <;> simp_all
        · rename_i e1; simp only [e1, ld1W]
      · rfl
    · rename_i h; split
      · rename_i e; exact absurd e (h _ _ _ _)
      · rfl
  · rfl
@[simp] theorem loadAt_elwn (m k t sz i j : Nat) : loadAt σ false m (.c (.elw k t sz i j)) = if t = σ.tg k then ldnW k j m (elwO sz i (σ.ob k)) else none := by
  simp only [loadAt]; split
  · unfold elwO; split
    · rename_i e; rw [e]; simp only [Bool.false_eq_true, if_false]
      split
      · split
        · rename_i e1; simp only [e1, ldnW]
        · rename_i e1; simp only [e1, ldnW]
      · rfl
    · rename_i h; split
      · rename_i e; exact absurd e (h _ _ _ _)
      · rfl
  · rfl

/-! ### stores -/
def stE (σ : St) (n : Nat) (x : AV) : Option (List Cell) → Option Eff
  | some cs => storeAt σ n cs x
  | none => none
@[simp] theorem stE_some (n : Nat) (x : AV) (cs : List Cell) : stE σ n x (some cs) = storeAt σ n cs x := rfl
@[simp] theorem ev1_st1 (ty : Nat) (x v : SArg) : ev1 key ρ σ (.st1 ty x v) = stE σ 1 (un (ρ x)) (cellsOf (un (ρ v))) := by
  simp only [ev1]; unfold stE; cases cellsOf (un (ρ v)) <;> rfl
@[simp] theorem ev1_stn (ty n : Nat) (x v : SArg) : ev1 key ρ σ (.stn ty n x v) = stE σ n (un (ρ x)) (cellsOf (un (ρ v))) := by
  simp only [ev1]; unfold stE; cases cellsOf (un (ρ v)) <;> rfl
@[simp] theorem cond_st1 (ty : Nat) (x v : SArg) : cond β ρ σ (.st1 ty x v) = (gok β (ρ x) ∧ gok β (ρ v)) := rfl
@[simp] theorem cond_stn (ty n : Nat) (x v : SArg) : cond β ρ σ (.stn ty n x v) = (gok β (ρ x) ∧ gok β (ρ v)) := rfl
def stO (k off n : Nat) (xs : List Cell) : Option Obj → Option Eff
  | some (.box ty cs) => if xs.length = n ∧ off + n ≤ cs.length then some ⟨.tup [], [], [(k, .box ty (putC cs off xs))], k :: keysCs xs⟩ else none
  | _ => none
@[simp] theorem stO_box (k off n ty : Nat) (xs cs : List Cell) : stO k off n xs (some (.box ty cs)) = if xs.length = n ∧ off + n ≤ cs.length then some ⟨.tup [], [], [(k, .box ty (putC cs off xs))], k :: keysCs xs⟩ else none := rfl
@[simp] theorem storeAt_ref (n k t off : Nat) (xs : List Cell) : storeAt σ n xs (.c (.ref k t off)) = if t = σ.tg k then stO k off n xs (σ.ob k) else none := by
  simp only [storeAt]; split
  · unfold stO; split
    · rename_i e; rw [e]
    · rename_i h; split
      · rename_i e; exact absurd e (h _ _)
      · rfl
  · rfl
def stW2 (k ty sz bs i j n : Nat) (xs xd : List Cell) (es : List (List Cell)) : Option (List Cell) → Option Eff
  | some cs => if j + n ≤ cs.length then some ⟨.tup [], [], [(k, .mrow ty sz bs (es.set i (putC cs j xd)))], k :: keysCs xs⟩ else none
  | none => none
def stW (k sz i j n : Nat) (xs xd : List Cell) : Option Obj → Option Eff
  | some (.mrow ty sz' bs es) => if sz = sz' ∧ xs.length = n ∧ xd.all Cell.isD = true then stW2 k ty sz bs i j n xs xd es es[i]? else none
  | _ => none
@[simp] theorem stW2_some (k ty sz bs i j n : Nat) (xs xd cs : List Cell) (es : List (List Cell)) : stW2 k ty sz bs i j n xs xd es (some cs) = if j + n ≤ cs.length then some ⟨.tup [], [], [(k, .mrow ty sz bs (es.set i (putC cs j xd)))], k :: keysCs xs⟩ else none := rfl
@[simp] theorem stW_mrow (k sz i j n ty sz' bs : Nat) (xs xd : List Cell) (es : List (List Cell)) : stW k sz i j n xs xd (some (.mrow ty sz' bs es)) = if sz = sz' ∧ xs.length = n ∧ xd.all Cell.isD = true then stW2 k ty sz bs i j n xs xd es es[i]? else none := rfl
@[simp] theorem storeAt_elw (n k t sz i j : Nat) (xs : List Cell) : storeAt σ n xs (.c (.elw k t sz i j)) = if t = σ.tg k then stW k sz i j n xs (xs.map (toD σ)) (σ.ob k) else none := by
  simp only [storeAt]; split
  · unfold stW; split
    · rename_i e; rw [e]; dsimp only
      split
      · unfold stW2; split <;> simp_all
      · rfl
    · rename_i h; split
      · rename_i e; exact absurd e (h _ _ _ _)
      · rfl
  · rfl

/-! ### addresses and parts -/
def nilE (σ : St) : AV → Option Eff
  | .c (.ref k t off) => if t = σ.tg k then some (.look (.c (.ref k t off)) [k]) else none
  | .c (.elp cs j) => some (.pure (.c (.elp cs j)))
  | _ => none
@[simp] theorem ev1_nilc (x : SArg) : ev1 key ρ σ (.nilc x) = nilE σ (un (ρ x)) := rfl
@[simp] theorem nilE_ref (k t off : Nat) : nilE σ (.c (.ref k t off)) = if t = σ.tg k then some (.look (.c (.ref k t off)) [k]) else none := rfl
@[simp] theorem nilE_elp (cs : List Cell) (j : Nat) : nilE σ (.c (.elp cs j)) = some (.pure (.c (.elp cs j))) := rfl
@[simp] theorem cond_nilc (x : SArg) : cond β ρ σ (.nilc x) = gok β (ρ x) := rfl
def fadE (σ : St) (off : Nat) : AV → Option Eff
  | .c (.ref k t o) => if t = σ.tg k then some (.look (.c (.ref k t (o + off))) [k]) else none
  | .c (.elp cs j) => some (.pure (.c (.elp cs (j + off))))
  | .c (.elw k t sz i j) => if t = σ.tg k then some (.look (.c (.elw k t sz i (j + off))) [k]) else none
  | _ => none
@[simp] theorem ev1_fad (ty i off : Nat) (x : SArg) : ev1 key ρ σ (.fad ty i off x) = fadE σ off (un (ρ x)) := rfl
@[simp] theorem fadE_ref (off k t o : Nat) : fadE σ off (.c (.ref k t o)) = if t = σ.tg k then some (.look (.c (.ref k t (o + off))) [k]) else none := rfl
@[simp] theorem fadE_elp (off j : Nat) (cs : List Cell) : fadE σ off (.c (.elp cs j)) = some (.pure (.c (.elp cs (j + off)))) := rfl
@[simp] theorem fadE_elw (off k t sz i j : Nat) : fadE σ off (.c (.elw k t sz i j)) = if t = σ.tg k then some (.look (.c (.elw k t sz i (j + off))) [k]) else none := rfl
@[simp] theorem cond_fad (ty i off : Nat) (x : SArg) : cond β ρ σ (.fad ty i off x) = gok β (ρ x) := rfl
def fld1E (off : Nat) : AV → Option Eff
  | .agg cs => match cs[off]? with
    | some c => some (.pure (.c c))
    | none => none
  | _ => none
def fldnE (off n : Nat) : AV → Option Eff
  | .agg cs => if off + n ≤ cs.length then some (.pure (.agg ((cs.drop off).take n))) else none
  | _ => none
@[simp] theorem ev1_fld1 (ty i off : Nat) (x : SArg) : ev1 key ρ σ (.fld1 ty i off x) = fld1E off (un (ρ x)) := rfl
@[simp] theorem ev1_fldn (ty i off n : Nat) (x : SArg) : ev1 key ρ σ (.fldn ty i off n x) = fldnE off n (un (ρ x)) := rfl
@[simp] theorem fld1E_agg (off : Nat) (cs : List Cell) : fld1E off (.agg cs) = ld1P cs[off]? := by unfold fld1E ld1P; split <;> simp_all
@[simp] theorem fldnE_agg (off n : Nat) (cs : List Cell) : fldnE off n (.agg cs) = if off + n ≤ cs.length then some (.pure (.agg ((cs.drop off).take n))) else none := rfl
@[simp] theorem cond_fld1 (ty i off : Nat) (x : SArg) : cond β ρ σ (.fld1 ty i off x) = gok β (ρ x) := rfl
@[simp] theorem cond_fldn (ty i off n : Nat) (x : SArg) : cond β ρ σ (.fldn ty i off n x) = gok β (ρ x) := rfl
def iadO (sz n k t : Nat) : Option Obj → Option Eff
  | some (.mrow _ sz' _ _) => if sz = sz' then some (.look (.c (.elw k t sz n 0)) [k]) else none
  | some (.row _ sz' _ es) => if sz = sz' then some (.look (.c (.elp (es.getD n []) 0)) [k]) else none
  | _ => none
def iadE (σ : St) (sz : Nat) : AV → AV → Option Eff
  | .c (.own k t), .c (.v (.int .i64 n)) => if t = σ.tg k then iadO sz n.toNat k t (σ.ob k) else none
  | .c (.sl sz' _ es), .c (.v (.int .i64 n)) => if sz = sz' ∨ es = [] then some (.pure (.c (.elp (es.getD n.toNat []) 0))) else none
  | .c (.cap sz' _ es), .c (.v (.int .i64 n)) => if sz = sz' ∨ es = [] then some (.pure (.c (.elp (es.getD n.toNat []) 0))) else none
  | _, _ => none
theorem intOf_some {x : AV} {n : Int} (h : intOf? x = some n) : x = .c (.v (.int .i64 n)) := by
  unfold intOf? at h; split at h
  · cases h; rfl
  · cases h
theorem iad_own (ty sz k t : Nat) (x i : SArg) (n : Int) (hx : un (ρ x) = .c (.own k t)) (hi : un (ρ i) = .c (.v (.int .i64 n))) : ev1 key ρ σ (.iad ty sz x i) = if t = σ.tg k then iadO sz n.toNat k t (σ.ob k) else none := by
  simp only [ev1, hx, hi, intOf?]; split
  · unfold iadO; split <;> simp_all
  · rfl
@[simp] theorem ev1_iad (ty sz : Nat) (x i : SArg) : ev1 key ρ σ (.iad ty sz x i) = iadE σ sz (un (ρ x)) (un (ρ i)) := by
  cases hi : intOf? (un (ρ i)) with
  | none =>
    have h1 : ev1 key ρ σ (.iad ty sz x i) = none := by simp only [ev1, hi]
    rw [h1]; unfold iadE; split
    · rename_i e; rw [e] at hi; cases hi
    · rename_i e; rw [e] at hi; cases hi
    · rename_i e; rw [e] at hi; cases hi
    · rfl
  | some n =>
    have he := intOf_some hi
    unfold iadE; split
    · rename_i k t n' e1 e2
      exact iad_own ty sz k t x i n' e1 e2
    · rename_i e1 e2; simp only [ev1, e1, e2, intOf?]
    · rename_i e1 e2; simp only [ev1, e1, e2, intOf?]
    · rename_i h1 h2 h3
      rw [he] at h1 h2 h3
      simp only [ev1, hi]
      split
      · rename_i e; exact absurd rfl (h1 _ _ _ e)
      · rename_i e; exact absurd rfl (h2 _ _ _ _ e)
      · rename_i e; exact absurd rfl (h3 _ _ _ _ e)
      · rfl
@[simp] theorem iadE_own (sz k t : Nat) (n : Int) : iadE σ sz (.c (.own k t)) (.c (.v (.int .i64 n))) = if t = σ.tg k then iadO sz n.toNat k t (σ.ob k) else none := rfl
@[simp] theorem iadE_sl (sz sz' bs : Nat) (es : List (List Cell)) (n : Int) : iadE σ sz (.c (.sl sz' bs es)) (.c (.v (.int .i64 n))) = if sz = sz' ∨ es = [] then some (.pure (.c (.elp (es.getD n.toNat []) 0))) else none := rfl
@[simp] theorem iadE_cap (sz sz' bs : Nat) (es : List (List Cell)) (n : Int) : iadE σ sz (.c (.cap sz' bs es)) (.c (.v (.int .i64 n))) = if sz = sz' ∨ es = [] then some (.pure (.c (.elp (es.getD n.toNat []) 0))) else none := rfl
@[simp] theorem iadO_mrow (sz n k t ty sz' bs : Nat) (es : List (List Cell)) : iadO sz n k t (some (.mrow ty sz' bs es)) = if sz = sz' then some (.look (.c (.elw k t sz n 0)) [k]) else none := rfl
@[simp] theorem iadO_row (sz n k t ty sz' bs : Nat) (es : List (List Cell)) : iadO sz n k t (some (.row ty sz' bs es)) = if sz = sz' then some (.look (.c (.elp (es.getD n []) 0)) [k]) else none := rfl
def inO (n : Int) : Option Obj → Prop
  | some (.mrow _ _ _ es) => n < es.length
  | some (.row _ _ _ es) => n < es.length
  | _ => True
def inE (σ : St) (n : Int) : AV → Prop
  | .c (.own k _) => inO n (σ.ob k)
  | .c (.sl _ _ es) => n < es.length
  | .c (.cap _ _ es) => n < es.length
  | _ => True
@[simp] theorem inE_own (n : Int) (k t : Nat) : inE σ n (.c (.own k t)) = inO n (σ.ob k) := rfl
@[simp] theorem inE_sl (n : Int) (sz bs : Nat) (es : List (List Cell)) : inE σ n (.c (.sl sz bs es)) = (n < es.length) := rfl
@[simp] theorem inE_cap (n : Int) (sz bs : Nat) (es : List (List Cell)) : inE σ n (.c (.cap sz bs es)) = (n < es.length) := rfl
@[simp] theorem inO_mrow (n : Int) (ty sz bs : Nat) (es : List (List Cell)) : inO n (some (.mrow ty sz bs es)) = (n < es.length) := rfl
@[simp] theorem inO_row (n : Int) (ty sz bs : Nat) (es : List (List Cell)) : inO n (some (.row ty sz bs es)) = (n < es.length) := rfl
def iadC (σ : St) (x : AV) : Option Int → Prop
  | some n => 0 ≤ n ∧ inE σ n x
  | none => True
@[simp] theorem iadC_some (x : AV) (n : Int) : iadC σ x (some n) = (0 ≤ n ∧ inE σ n x) := rfl
@[simp] theorem intOf_v (n : Int) : intOf? (.c (.v (.int .i64 n))) = some n := rfl
@[simp] theorem cond_iad (ty sz : Nat) (x i : SArg) : cond β ρ σ (.iad ty sz x i) = (gok β (ρ x) ∧ gok β (ρ i) ∧ (β = true → iadC σ (un (ρ x)) (intOf? (un (ρ i))))) := by
  have h : cond β ρ σ (.iad ty sz x i) = (gok β (ρ x) ∧ gok β (ρ i) ∧ (β = true → ∀ n, intOf? (un (ρ i)) = some n → 0 ≤ n ∧ inE σ n (un (ρ x)))) := rfl
  rw [h]
  unfold iadC
  cases intOf? (un (ρ i)) <;> simp

/-! ### reckoning -/
def beqE (neg : Bool) : AV → AV → Option Eff
  | .c (.v (.bool a)), .c (.v (.bool b)) => some (.pure (.c (.v (.bool (if neg then a != b else a == b)))))
  | _, _ => none
@[simp] theorem ev1_beq (neg : Bool) (ty : Nat) (x y : SArg) : ev1 key ρ σ (.beq neg ty x y) = beqE neg (un (ρ x)) (un (ρ y)) := rfl
@[simp] theorem beqE_f (a b : Bool) : beqE false (.c (.v (.bool a))) (.c (.v (.bool b))) = some (.pure (.c (.v (.bool (a == b))))) := rfl
@[simp] theorem beqE_t (a b : Bool) : beqE true (.c (.v (.bool a))) (.c (.v (.bool b))) = some (.pure (.c (.v (.bool (a != b))))) := rfl
@[simp] theorem cond_beq (neg : Bool) (ty : Nat) (x y : SArg) : cond β ρ σ (.beq neg ty x y) = (gok β (ρ x) ∧ gok β (ρ y)) := rfl
def binK : Option Value → Option Eff
  | some v => some (.pure (.c (.v v)))
  | none => none
@[simp] theorem binK_some (v : Value) : binK (some v) = some (.pure (.c (.v v))) := rfl
def binE (op : BinOp) : AV → AV → Option Eff
  | .c (.v a), .c (.v b) => binK (binV op a b)
  | _, _ => none
@[simp] theorem ev1_bin (op : BinOp) (x y : SArg) : ev1 key ρ σ (.bin op x y) = binE op (un (ρ x)) (un (ρ y)) := by
  simp only [ev1]; unfold binE; split <;> rename_i e1 e2
  · rw [e1, e2]; dsimp only; unfold binK; split <;> simp_all
  · split
    · rename_i e3 e4; exact absurd e4 (e2 _ _ e3)
    · rfl
@[simp] theorem binE_vv (op : BinOp) (a b : Value) : binE op (.c (.v a)) (.c (.v b)) = binK (binV op a b) := rfl
@[simp] theorem binV_add (k : IntKind) (a b : Int) : binV .add (.int k a) (.int k b) = some (.int k (k.wrap (a + b))) := by simp [binV]
@[simp] theorem binV_sub (k : IntKind) (a b : Int) : binV .sub (.int k a) (.int k b) = some (.int k (k.wrap (a - b))) := by simp [binV]
@[simp] theorem binV_mul (k : IntKind) (a b : Int) : binV .mul (.int k a) (.int k b) = some (.int k (k.wrap (a * b))) := by simp [binV]
@[simp] theorem binV_quo (k : IntKind) (a b : Int) : binV .quo (.int k a) (.int k b) = some (.int k (k.wrap (a.tdiv b))) := by simp [binV]
@[simp] theorem binV_rem (k : IntKind) (a b : Int) : binV .rem (.int k a) (.int k b) = some (.int k (a.tmod b)) := by simp [binV]
@[simp] theorem binV_eql (k : IntKind) (a b : Int) : binV .eql (.int k a) (.int k b) = some (.bool (decide (a = b))) := by simp [binV]; rfl
@[simp] theorem binV_neq (k : IntKind) (a b : Int) : binV .neq (.int k a) (.int k b) = some (.bool (!decide (a = b))) := by simp [binV]; rfl
@[simp] theorem binV_lss (k : IntKind) (a b : Int) : binV .lss (.int k a) (.int k b) = some (.bool (decide (a < b))) := by simp [binV]
@[simp] theorem binV_leq (k : IntKind) (a b : Int) : binV .leq (.int k a) (.int k b) = some (.bool (decide (a ≤ b))) := by simp [binV]
@[simp] theorem binV_gtr (k : IntKind) (a b : Int) : binV .gtr (.int k a) (.int k b) = some (.bool (decide (b < a))) := by simp [binV]
@[simp] theorem binV_geq (k : IntKind) (a b : Int) : binV .geq (.int k a) (.int k b) = some (.bool (decide (b ≤ a))) := by simp [binV]
def divC (β : Bool) (op : BinOp) (y : AV) : Prop := match op, y with
  | .quo, .c (.v (.int _ b)) => β = true → b ≠ 0
  | .rem, .c (.v (.int _ b)) => β = true → b ≠ 0
  | _, _ => True
@[simp] theorem cond_bin (op : BinOp) (x y : SArg) : cond β ρ σ (.bin op x y) = (gok β (ρ x) ∧ gok β (ρ y) ∧ divC β op (un (ρ y))) := rfl
@[simp] theorem divC_add (y : AV) : divC β .add y = True := rfl
@[simp] theorem divC_sub (y : AV) : divC β .sub y = True := rfl
@[simp] theorem divC_mul (y : AV) : divC β .mul y = True := rfl
@[simp] theorem divC_eql (y : AV) : divC β .eql y = True := rfl
@[simp] theorem divC_neq (y : AV) : divC β .neq y = True := rfl
@[simp] theorem divC_lss (y : AV) : divC β .lss y = True := rfl
@[simp] theorem divC_leq (y : AV) : divC β .leq y = True := rfl
@[simp] theorem divC_gtr (y : AV) : divC β .gtr y = True := rfl
@[simp] theorem divC_geq (y : AV) : divC β .geq y = True := rfl
@[simp] theorem divC_quo (k : IntKind) (b : Int) : divC β .quo (.c (.v (.int k b))) = (β = true → b ≠ 0) := rfl
@[simp] theorem divC_rem (k : IntKind) (b : Int) : divC β .rem (.c (.v (.int k b))) = (β = true → b ≠ 0) := rfl
def notE : AV → Option Eff
  | .c (.v (.bool b)) => some (.pure (.c (.v (.bool (!b)))))
  | _ => none
@[simp] theorem ev1_not (x : SArg) : ev1 key ρ σ (.not x) = notE (un (ρ x)) := rfl
@[simp] theorem notE_b (b : Bool) : notE (.c (.v (.bool b))) = some (.pure (.c (.v (.bool (!b))))) := rfl
@[simp] theorem cond_not (x : SArg) : cond β ρ σ (.not x) = gok β (ρ x) := rfl
def negE : AV → Option Eff
  | .c (.v (.int k n)) => some (.pure (.c (.v (.int k (k.wrap (0 - n))))))
  | _ => none
@[simp] theorem ev1_neg (x : SArg) : ev1 key ρ σ (.neg x) = negE (un (ρ x)) := rfl
@[simp] theorem negE_i (k : IntKind) (n : Int) : negE (.c (.v (.int k n))) = some (.pure (.c (.v (.int k (k.wrap (0 - n)))))) := rfl
@[simp] theorem cond_neg (x : SArg) : cond β ρ σ (.neg x) = gok β (ρ x) := rfl
def convE (k : IntKind) : AV → Option Eff
  | .c (.v (.int _ n)) => some (.pure (.c (.v (.int k (k.wrap n)))))
  | _ => none
@[simp] theorem ev1_conv (t u : Nat) (k : IntKind) (x : SArg) : ev1 key ρ σ (.conv t u k x) = convE k (un (ρ x)) := rfl
@[simp] theorem convE_i (k k' : IntKind) (n : Int) : convE k (.c (.v (.int k' n))) = some (.pure (.c (.v (.int k (k.wrap n))))) := rfl
@[simp] theorem cond_conv (t u : Nat) (k : IntKind) (x : SArg) : cond β ρ σ (.conv t u k x) = gok β (ρ x) := rfl
@[simp] theorem ev1_best (mx : Bool) (x : SArg) (xs : List SArg) : ev1 key ρ σ (.best mx (x :: xs)) = (match un (ρ x) with
      | .c (.v (.int k a)) => match bestL mx k a (xs.map ρ) with
        | some m => some (.pure (.c (.v (.int k m))))
        | none => none
      | _ => none) := rfl
@[simp] theorem cond_best (mx : Bool) (xs : List SArg) : cond β ρ σ (.best mx xs) = ∀ x, x ∈ xs → gok β (ρ x) := rfl

/-! ### functions, tuples, slices -/
def mkK (f : Nat) : Option (List (Nat × Nat)) → Option (List (Nat × Nat)) → Option Eff
  | some a, some b => some (.pure (.c (.clo f a b)))
  | _, _ => none
@[simp] theorem mkK_some (f : Nat) (a b : List (Nat × Nat)) : mkK f (some a) (some b) = some (.pure (.c (.clo f a b))) := rfl
@[simp] theorem ev1_mkfn (f : Nat) (xs ys : List SArg) : ev1 key ρ σ (.mkfn f xs ys) = mkK f (refKeys (xs.map ρ)) (refKeys (ys.map ρ)) := by
  simp only [ev1]; unfold mkK; split <;> simp_all
@[simp] theorem refKeys_nil : refKeys [] = some [] := rfl
def refKK : Option (Nat × Nat) → Option (List (Nat × Nat)) → Option (List (Nat × Nat))
  | some k, some l => some (k :: l)
  | _, _ => none
@[simp] theorem refKK_some (k : Nat × Nat) (l : List (Nat × Nat)) : refKK (some k) (some l) = some (k :: l) := rfl
@[simp] theorem refKeys_cons (x : AV) (r : List AV) : refKeys (x :: r) = refKK (refKey (un x)) (refKeys r) := by simp only [refKeys]; unfold refKK; split <;> simp_all
@[simp] theorem refKey_ref (k t : Nat) : refKey (.c (.ref k t 0)) = some (k, t) := rfl
@[simp] theorem cond_mkfn (f : Nat) (xs ys : List SArg) : cond β ρ σ (.mkfn f xs ys) = ((∀ x, x ∈ xs → gok β (ρ x)) ∧ ∀ x, x ∈ ys → gok β (ρ x)) := rfl
def extE (i : Nat) : AV → Option Eff
  | .tup l => match l[i]? with
    | some x => some (.pure x)
    | none => none
  | _ => none
@[simp] theorem ev1_ext (x : SArg) (i : Nat) : ev1 key ρ σ (.ext x i) = extE i (un (ρ x)) := rfl
@[simp] theorem extE_0 (x : AV) (l : List AV) : extE 0 (.tup (x :: l)) = some (.pure x) := rfl
@[simp] theorem extE_1 (x y : AV) (l : List AV) : extE 1 (.tup (x :: y :: l)) = some (.pure y) := rfl
@[simp] theorem extE_2 (x y z : AV) (l : List AV) : extE 2 (.tup (x :: y :: z :: l)) = some (.pure z) := rfl
@[simp] theorem extE_3 (x y z u : AV) (l : List AV) : extE 3 (.tup (x :: y :: z :: u :: l)) = some (.pure u) := rfl
@[simp] theorem cond_ext (x : SArg) (i : Nat) : cond β ρ σ (.ext x i) = gok β (ρ x) := rfl
@[simp] theorem ev1_mkmap (one : Bool) : ev1 key ρ σ (.mkmap one) = some ⟨.c (.mp key (σ.tg key + 1)), [key], [(key, .mob one [])], []⟩ := rfl
@[simp] theorem cond_mkmap (one : Bool) : cond β ρ σ (.mkmap one) = True := rfl
def msetC (σ : St) (one : Bool) (n : Int) (m : AV) : Option (List Cell) → Option Eff
  | some cs => msetAt σ one n cs m
  | none => none
def msetK (σ : St) (one : Bool) (m v : AV) : Option Int → Option Eff
  | some n => msetC σ one n m (mcells one v)
  | none => none
@[simp] theorem ev1_mset (one : Bool) (m k v : SArg) : ev1 key ρ σ (.mset one m k v) = msetK σ one (un (ρ m)) (un (ρ v)) (intOf? (un (ρ k))) := by
  simp only [ev1, msetK]
  split <;> simp_all [msetC]
  split <;> simp_all
@[simp] theorem cond_mset (one : Bool) (m k v : SArg) : cond β ρ σ (.mset one m k v) = (gok β (ρ m) ∧ gok β (ρ k) ∧ gok β (ρ v)) := rfl
@[simp] theorem msetK_some (one : Bool) (m v : AV) (n : Int) : msetK σ one m v (some n) = msetC σ one n m (mcells one v) := rfl
@[simp] theorem msetC_some (one : Bool) (n : Int) (m : AV) (cs : List Cell) : msetC σ one n m (some cs) = msetAt σ one n cs m := rfl
@[simp] theorem mcells_v (x : Value) : mcells true (.c (.v x)) = some [.v x] := rfl
@[simp] theorem mcells_agg (cs : List Cell) : mcells false (.agg cs) = some cs := rfl
def msetO (k : Nat) (one : Bool) (n : Int) (cs xs : List Cell) : Option Obj → Option Eff
  | some (.mob one' es) => if one' = one ∧ xs.all Cell.isD = true then some ⟨.tup [], [], [(k, .mob one (msetL es n xs))], k :: keysCs cs⟩ else none
  | _ => none
@[simp] theorem msetAt_mp (one : Bool) (n : Int) (cs : List Cell) (k t : Nat) : msetAt σ one n cs (.c (.mp k t)) = if t = σ.tg k then msetO k one n cs (cs.map (toD σ)) (σ.ob k) else none := by
  simp only [msetAt]
  split
  · cases σ.ob k with
    | none => rfl
    | some q => cases q <;> rfl
  · rfl
@[simp] theorem msetO_some (k : Nat) (one one' : Bool) (n : Int) (cs xs : List Cell) (es : List (Int × List Cell)) : msetO k one n cs xs (some (.mob one' es)) = if one' = one ∧ xs.all Cell.isD = true then some ⟨.tup [], [], [(k, .mob one (msetL es n xs))], k :: keysCs cs⟩ else none := rfl
def mgetK (σ : St) (one ok : Bool) (zs : List Cell) (m : AV) : Option Int → Option Eff
  | some n => mgetAt σ one ok zs n m
  | none => none
@[simp] theorem ev1_mget (one ok : Bool) (zs : List Cell) (m k : SArg) : ev1 key ρ σ (.mget one ok zs m k) = mgetK σ one ok zs (un (ρ m)) (intOf? (un (ρ k))) := by
  simp only [ev1, mgetK]
  split <;> simp_all
@[simp] theorem cond_mget (one ok : Bool) (zs : List Cell) (m k : SArg) : cond β ρ σ (.mget one ok zs m k) = (gok β (ρ m) ∧ gok β (ρ k)) := rfl
@[simp] theorem mgetK_some (one ok : Bool) (zs : List Cell) (m : AV) (n : Int) : mgetK σ one ok zs m (some n) = mgetAt σ one ok zs n m := rfl
def mgetO (k : Nat) (one ok : Bool) (zs : List Cell) (n : Int) : Option Obj → Option Eff
  | some (.mob one' es) => if one' = one then some (.look (mres one ok zs (mgetL es n)) [k]) else none
  | _ => none
@[simp] theorem mgetAt_mp (one ok : Bool) (zs : List Cell) (n : Int) (k t : Nat) : mgetAt σ one ok zs n (.c (.mp k t)) = if t = σ.tg k then mgetO k one ok zs n (σ.ob k) else none := by
  simp only [mgetAt]
  split
  · cases σ.ob k with
    | none => rfl
    | some q => cases q <;> rfl
  · rfl
@[simp] theorem mgetO_some (k : Nat) (one one' ok : Bool) (zs : List Cell) (n : Int) (es : List (Int × List Cell)) : mgetO k one ok zs n (some (.mob one' es)) = if one' = one then some (.look (mres one ok zs (mgetL es n)) [k]) else none := rfl
def lenO (k : Nat) : Option Obj → Option Eff
  | some (.mrow _ _ _ es) => some (.look (.c (.v (.int .i64 es.length))) [k])
  | some (.row _ _ _ es) => some (.look (.c (.v (.int .i64 es.length))) [k])
  | _ => none
def lenE (σ : St) : AV → Option Eff
  | .c (.own k t) => if t = σ.tg k then lenO k (σ.ob k) else none
  | .c (.sl _ _ es) => some (.pure (.c (.v (.int .i64 es.length))))
  | .c (.cap _ _ es) => some (.pure (.c (.v (.int .i64 es.length))))
  | _ => none
@[simp] theorem ev1_len (ty : Nat) (x : SArg) : ev1 key ρ σ (.len ty x) = lenE σ (un (ρ x)) := rfl
@[simp] theorem lenE_own (k t : Nat) : lenE σ (.c (.own k t)) = if t = σ.tg k then lenO k (σ.ob k) else none := rfl
@[simp] theorem lenE_sl (sz bs : Nat) (es : List (List Cell)) : lenE σ (.c (.sl sz bs es)) = some (.pure (.c (.v (.int .i64 es.length)))) := rfl
@[simp] theorem lenE_cap (sz bs : Nat) (es : List (List Cell)) : lenE σ (.c (.cap sz bs es)) = some (.pure (.c (.v (.int .i64 es.length)))) := rfl
@[simp] theorem lenO_mrow (k ty sz bs : Nat) (es : List (List Cell)) : lenO k (some (.mrow ty sz bs es)) = some (.look (.c (.v (.int .i64 es.length))) [k]) := rfl
@[simp] theorem lenO_row (k ty sz bs : Nat) (es : List (List Cell)) : lenO k (some (.row ty sz bs es)) = some (.look (.c (.v (.int .i64 es.length))) [k]) := rfl
@[simp] theorem cond_len (ty : Nat) (x : SArg) : cond β ρ σ (.len ty x) = gok β (ρ x) := rfl
def mkE (key t ty sz bs : Nat) (zs : List Cell) : AV → Option Eff
  | .c (.v (.int .i64 m)) => some ⟨.c (.own key (t + 1)), [key], [(key, .mrow ty sz bs (List.replicate m.toNat (zs.map Cell.plain)))], []⟩
  | _ => none
@[simp] theorem ev1_mk (ty sz bs : Nat) (zs : List Cell) (x : SArg) : ev1 key ρ σ (.mk ty sz bs zs x) = mkE key (σ.tg key) ty sz bs zs (un (ρ x)) := rfl
@[simp] theorem mkE_i (t ty sz bs : Nat) (zs : List Cell) (m : Int) : mkE key t ty sz bs zs (.c (.v (.int .i64 m))) = some ⟨.c (.own key (t + 1)), [key], [(key, .mrow ty sz bs (List.replicate m.toNat (zs.map Cell.plain)))], []⟩ := rfl
def mkC (β : Bool) (bs : Nat) : AV → Prop
  | .c (.v (.int .i64 m)) => β = true → 0 ≤ m ∧ m * bs ≤ room
  | _ => True
@[simp] theorem cond_mk (ty sz bs : Nat) (zs : List Cell) (x : SArg) : cond β ρ σ (.mk ty sz bs zs x) = (gok β (ρ x) ∧ mkC β bs (un (ρ x))) := rfl
@[simp] theorem mkC_i (bs : Nat) (m : Int) : mkC β bs (.c (.v (.int .i64 m))) = (β = true → 0 ≤ m ∧ m * bs ≤ room) := rfl
def elO : Option Obj → Option (Nat × Nat × List (List Cell))
  | some (.row _ sz bs es) => some (sz, bs, es)
  | _ => none
@[simp] theorem elO_row (ty sz bs : Nat) (es : List (List Cell)) : elO (some (.row ty sz bs es)) = some (sz, bs, es) := rfl
@[simp] theorem elems_sl (sz bs : Nat) (es : List (List Cell)) : elems σ (.c (.sl sz bs es)) = some (sz, bs, es) := rfl
@[simp] theorem elems_cap (sz bs : Nat) (es : List (List Cell)) : elems σ (.c (.cap sz bs es)) = some (sz, bs, es) := rfl
@[simp] theorem elems_own (k t : Nat) : elems σ (.c (.own k t)) = if t = σ.tg k then elO (σ.ob k) else none := rfl
def litK (σ : St) : Option (List Cell) → Option (List (List Cell)) → Option (List (List Cell))
  | some cs, some l => some (cs.map (toD σ) :: l)
  | _, _ => none
@[simp] theorem litK_some (cs : List Cell) (l : List (List Cell)) : litK σ (some cs) (some l) = some (cs.map (toD σ) :: l) := rfl
@[simp] theorem litEs_nil : litEs σ [] = some [] := rfl
@[simp] theorem litEs_cons (x : AV) (r : List AV) : litEs σ (x :: r) = litK σ (cellsOf (un x)) (litEs σ r) := by simp only [litEs]; unfold litK; split <;> simp_all
def litE (sz bs : Nat) (rd : List Nat) : Option (List (List Cell)) → Option Eff
  | some es => some (.look (.c (.cap sz bs es)) rd)
  | none => none
@[simp] theorem litE_some (sz bs : Nat) (rd : List Nat) (es : List (List Cell)) : litE sz bs rd (some es) = some (.look (.c (.cap sz bs es)) rd) := rfl
@[simp] theorem ev1_lit (ty sz bs : Nat) (xs : List SArg) : ev1 key ρ σ (.lit ty sz bs xs) = litE sz bs (xs.flatMap fun x => (un (ρ x)).keys1) (litEs σ (xs.map ρ)) := by simp only [ev1]; unfold litE; split <;> simp_all
def litC (β : Bool) (sz bs : Nat) : Option (List (List Cell)) → Prop
  | some es => (∀ l, l ∈ es → l.length = sz ∧ l.all Cell.isD = true) ∧ (β = true → es.length * bs ≤ room ∧ es.length * sz ≤ 16777216)
  | none => True
@[simp] theorem litC_some (sz bs : Nat) (es : List (List Cell)) : litC β sz bs (some es) = ((∀ l, l ∈ es → l.length = sz ∧ l.all Cell.isD = true) ∧ (β = true → es.length * bs ≤ room ∧ es.length * sz ≤ 16777216)) := rfl
@[simp] theorem cond_lit (ty sz bs : Nat) (xs : List SArg) : cond β ρ σ (.lit ty sz bs xs) = ((∀ x, x ∈ xs → gok β (ρ x)) ∧ litC β sz bs (litEs σ (xs.map ρ))) := by
  simp only [cond]; unfold litC; split <;> simp_all
def appO (key t k ty sz bs : Nat) (rd : List Nat) (ys : List (List Cell)) : Option Obj → Option Eff
  | some (.row ty' _ _ es) => if ty' = ty then some ⟨.c (.own key (t + 1)), [key, k], [(key, .row ty sz bs (es ++ ys))], rd⟩ else none
  | some (.mrow ty' _ _ es) => if ty' = ty then some ⟨.c (.own key (t + 1)), [key, k], [(key, .row ty sz bs (es ++ ys))], rd⟩ else none
  | _ => none
def appE (key : Nat) (σ : St) (ty sz bs : Nat) (rd : List Nat) (x : AV) (y : Option (Nat × Nat × List (List Cell))) : Option Eff := match y with
  | some (_, _, ys) => match x with
    | .c (.cap _ _ es) => some ⟨.c (.own key (σ.tg key + 1)), [key], [(key, .row ty sz bs (es ++ ys))], rd⟩
    | .c (.own k t) => if t = σ.tg k then appO key (σ.tg key) k ty sz bs (k :: rd) ys (σ.ob k) else none
    | _ => none
  | none => none
@[simp] theorem ev1_app (ty sz bs : Nat) (x y : SArg) : ev1 key ρ σ (.app ty sz bs x y) = appE key σ ty sz bs (un (ρ y)).keys1 (un (ρ x)) (elems σ (un (ρ y))) := rfl
@[simp] theorem appE_cap (ty sz bs sz' bs' sz2 bs2 : Nat) (rd : List Nat) (es ys : List (List Cell)) : appE key σ ty sz bs rd (.c (.cap sz' bs' es)) (some (sz2, bs2, ys)) = some ⟨.c (.own key (σ.tg key + 1)), [key], [(key, .row ty sz bs (es ++ ys))], rd⟩ := rfl
@[simp] theorem appE_own (ty sz bs k t sz2 bs2 : Nat) (rd : List Nat) (ys : List (List Cell)) : appE key σ ty sz bs rd (.c (.own k t)) (some (sz2, bs2, ys)) = if t = σ.tg k then appO key (σ.tg key) k ty sz bs (k :: rd) ys (σ.ob k) else none := rfl
@[simp] theorem appO_row (t k ty sz bs ty' sz' bs' : Nat) (rd : List Nat) (es ys : List (List Cell)) : appO key t k ty sz bs rd ys (some (.row ty' sz' bs' es)) = if ty' = ty then some ⟨.c (.own key (t + 1)), [key, k], [(key, .row ty sz bs (es ++ ys))], rd⟩ else none := rfl
@[simp] theorem appO_mrow (t k ty sz bs ty' sz' bs' : Nat) (rd : List Nat) (es ys : List (List Cell)) : appO key t k ty sz bs rd ys (some (.mrow ty' sz' bs' es)) = if ty' = ty then some ⟨.c (.own key (t + 1)), [key, k], [(key, .row ty sz bs (es ++ ys))], rd⟩ else none := rfl

def capO (sz bs : Nat) (ys : List (List Cell)) : Option Obj → Prop
  | some (.row _ sz' _ es) => sz' = sz ∧ (es.length + ys.length) * bs ≤ room
  | some (.mrow _ sz' _ es) => sz' = sz ∧ (es.length + ys.length) * bs ≤ room
  | _ => True
def capE (σ : St) (sz bs : Nat) (ys : List (List Cell)) : AV → Prop
  | .c (.cap sz' _ es) => (sz' = sz ∨ es = []) ∧ (es.length + ys.length) * bs ≤ room
  | .c (.own k _) => capO sz bs ys (σ.ob k)
  | _ => True
def appC (σ : St) (sz bs : Nat) (x : AV) : Option (Nat × Nat × List (List Cell)) → Prop
  | some q => (q.1 = sz ∨ q.2.2 = []) ∧ capE σ sz bs q.2.2 x
  | none => True
@[simp] theorem capO_row (sz bs ty sz' bs' : Nat) (es ys : List (List Cell)) : capO sz bs ys (some (.row ty sz' bs' es)) = (sz' = sz ∧ (es.length + ys.length) * bs ≤ room) := rfl
@[simp] theorem capO_mrow (sz bs ty sz' bs' : Nat) (es ys : List (List Cell)) : capO sz bs ys (some (.mrow ty sz' bs' es)) = (sz' = sz ∧ (es.length + ys.length) * bs ≤ room) := rfl
@[simp] theorem capE_cap (sz bs sz' bs' : Nat) (es ys : List (List Cell)) : capE σ sz bs ys (.c (.cap sz' bs' es)) = ((sz' = sz ∨ es = []) ∧ (es.length + ys.length) * bs ≤ room) := rfl
@[simp] theorem capE_own (sz bs k t : Nat) (ys : List (List Cell)) : capE σ sz bs ys (.c (.own k t)) = capO sz bs ys (σ.ob k) := rfl
@[simp] theorem appC_some (sz bs a b : Nat) (x : AV) (ys : List (List Cell)) : appC σ sz bs x (some (a, b, ys)) = ((a = sz ∨ ys = []) ∧ capE σ sz bs ys x) := rfl
@[simp] theorem cond_app (ty sz bs : Nat) (x y : SArg) : cond β ρ σ (.app ty sz bs x y) = (gok β (ρ x) ∧ gok β (ρ y) ∧ (β = true → appC σ sz bs (un (ρ x)) (elems σ (un (ρ y))))) := by
  have h : cond β ρ σ (.app ty sz bs x y) = (gok β (ρ x) ∧ gok β (ρ y) ∧ (β = true → ∀ q, elems σ (un (ρ y)) = some q → (q.1 = sz ∨ q.2.2 = []) ∧ capE σ sz bs q.2.2 (un (ρ x)))) := rfl
  rw [h]
  unfold appC
  cases elems σ (un (ρ y)) <;> simp
theorem ap_appw {d key k : Nat} {v : AV} {o : Obj} {rd : List Nat} : σ.ap (some d) ⟨v, [key, k], [(key, o)], rd⟩ = if key = k then (σ.new key o).set d v else ((σ.del k).new key o).set d v := by
  by_cases h : key = k
  · subst h
    rw [if_pos rfl, ← ap_new (rd := rd)]
    refine st_ext (fun s => rfl) (fun k' => ?_) fun k' => ?_
    · simp [St.ap, obAfter]
    · simp [St.ap]
  · rw [if_neg h]; exact ap_app h
attribute [simp] ap_appw ap_put

/-! ### a part of a slice -/
def loOf (ρ : SArg → AV) : Option SArg → Option Int
  | some y => intOf? (un (ρ y))
  | none => some 0
def hiOf (ρ : SArg → AV) (len : Nat) : Option SArg → Option Int
  | some y => intOf? (un (ρ y))
  | none => some len
@[simp] theorem loOf_s (y : SArg) : loOf ρ (some y) = intOf? (un (ρ y)) := rfl
@[simp] theorem loOf_n : loOf ρ none = some 0 := rfl
@[simp] theorem hiOf_s (len : Nat) (y : SArg) : hiOf ρ len (some y) = intOf? (un (ρ y)) := rfl
@[simp] theorem hiOf_n (len : Nat) : hiOf ρ len none = some (len : Int) := rfl
def slcE (sz bs : Nat) (rd : List Nat) (cut : Bool) (es : List (List Cell)) : Option Int → Option Int → Option Eff
  | some l, some h => some (.look (.c (bif cut then .cap sz bs ((es.take h.toNat).drop l.toNat) else .sl sz bs ((es.take h.toNat).drop l.toNat))) rd)
  | _, _ => none
@[simp] theorem slcE_some (sz bs : Nat) (rd : List Nat) (cut : Bool) (es : List (List Cell)) (l h : Int) :
    slcE sz bs rd cut es (some l) (some h) = some (.look (.c (bif cut then .cap sz bs ((es.take h.toNat).drop l.toNat) else .sl sz bs ((es.take h.toNat).drop l.toNat))) rd) := rfl
def slcK (ρ : SArg → AV) (sz bs : Nat) (rd : List Nat) (lo hi : Option SArg) (cut : Bool) : Option (Nat × Nat × List (List Cell)) → Option Eff
  | some (_, _, es) => slcE sz bs rd cut es (loOf ρ lo) (hiOf ρ es.length hi)
  | none => none
@[simp] theorem slcK_some (sz bs a b : Nat) (rd : List Nat) (lo hi : Option SArg) (cut : Bool) (es : List (List Cell)) : slcK ρ sz bs rd lo hi cut (some (a, b, es)) = slcE sz bs rd cut es (loOf ρ lo) (hiOf ρ es.length hi) := rfl
@[simp] theorem ev1_slc2 (ty sz bs : Nat) (x : SArg) (lo hi : Option SArg) : ev1 key ρ σ (.slc ty sz bs x lo hi none) = slcK ρ sz bs (un (ρ x)).keys1 lo hi false (elems σ (un (ρ x))) := by
  unfold slcK; cases h : elems σ (un (ρ x)) with
  | none => simp only [ev1, h]
  | some q =>
    obtain ⟨a, b, es⟩ := q
    unfold slcE
    cases lo <;> cases hi <;> simp only [ev1, h, loOf, hiOf] <;> (try split) <;> (try rfl) <;> simp_all
def mxE (ρ : SArg → AV) (y : SArg) (e : Option Eff) : Option Eff := match intOf? (un (ρ y)) with
  | some _ => e
  | none => none
def slcC (β : Bool) (ρ : SArg → AV) (sz bs : Nat) (lo hi mx : Option SArg) : Option (Nat × Nat × List (List Cell)) → Prop
  | some q => (q.1 = sz ∨ q.2.2 = []) ∧ q.2.2.length * bs ≤ room ∧
        ∀ l h : Int, loOf ρ lo = some l → hiOf ρ q.2.2.length hi = some h → 0 ≤ l ∧ l ≤ h ∧ h ≤ q.2.2.length ∧ ∀ y, mx = some y → intOf? (un (ρ y)) = some h
  | none => True
@[simp] theorem slcC_some (sz bs a b : Nat) (lo hi mx : Option SArg) (es : List (List Cell)) : slcC β ρ sz bs lo hi mx (some (a, b, es)) = ((a = sz ∨ es = []) ∧ es.length * bs ≤ room ∧
        ∀ l h : Int, loOf ρ lo = some l → hiOf ρ es.length hi = some h → 0 ≤ l ∧ l ≤ h ∧ h ≤ es.length ∧ ∀ y, mx = some y → intOf? (un (ρ y)) = some h) := rfl
@[simp] theorem cond_slc (ty sz bs : Nat) (x : SArg) (lo hi mx : Option SArg) : cond β ρ σ (.slc ty sz bs x lo hi mx) = (gok β (ρ x) ∧ (∀ y, lo = some y → gok β (ρ y)) ∧ (∀ y, hi = some y → gok β (ρ y)) ∧ (∀ y, mx = some y → gok β (ρ y)) ∧
    (β = true → slcC β ρ sz bs lo hi mx (elems σ (un (ρ x))))) := by
  simp only [cond]
  unfold slcC
  cases elems σ (un (ρ x)) with
  | none => simp
  | some q => cases lo <;> cases hi <;> simp [loOf, hiOf]
@[simp] theorem ev1_slc3 (ty sz bs : Nat) (x y : SArg) (lo hi : Option SArg) : ev1 key ρ σ (.slc ty sz bs x lo hi (some y)) = mxE ρ y (slcK ρ sz bs (un (ρ x)).keys1 lo hi true (elems σ (un (ρ x)))) := by
  unfold slcK mxE; cases h : elems σ (un (ρ x)) with
  | none => simp only [ev1, h]; split <;> rfl
  | some q =>
    obtain ⟨a, b, es⟩ := q
    unfold slcE
    cases h3 : intOf? (un (ρ y)) <;> cases lo <;> cases hi <;> simp only [ev1, h, h3, loOf, hiOf] <;> (try split) <;> (try rfl) <;> simp_all

end Go.Abs

namespace Go.Abs

variable {P : Program} {base : Nat} {σ : St} {key : Nat} {ρ : SArg → AV} {β : Bool}

/-! ### a region in any order: only those operations write that stand before or behind all others -/
def bar (anc : List Nat) (n i : Nat) : Bool := (List.range n).all fun j => decide (i = j) || (anc.getD i 0).testBit j || (anc.getD j 0).testBit i

def W1A (P : Program) (base : Nat) (ok : Bool) (so : SO) (σ : St) (K : St → Prop) : Prop := ∃ e, SemO P base so σ e ∧ (wrote e = [] ∨ ok = true) ∧ K (σ.ap so.dst e)
def WDA (P : Program) (base : Nat) (anc : List Nat) (n : Nat) : Nat → List SO → St → (St → Prop) → Prop
  | _, [], σ, K => K σ
  | i, so :: l, σ, K => W1A P base (bar anc n i) so σ fun σ' => WDA P base anc n (i + 1) l σ' K

theorem fineW_bar {anc : List Nat} {n : Nat} {tr : List TE} (h1 : ∀ x, x ∈ tr → x.i < n) (h2 : ∀ x, x ∈ tr → x.wr = [] ∨ bar anc n x.i = true) : fineW anc tr = true := by
  simp only [fineW, List.all_eq_true, List.mem_filter]
  rintro x ⟨hx, hw⟩ y hy
  rcases h2 x hx with h | h
  · rw [h] at hw; simp at hw
  · simp only [bar, List.all_eq_true, List.mem_range] at h
    have := h y.i (h1 y hy)
    simp only [Bool.or_eq_true] at this ⊢
    rcases this with (h' | h') | h'
    · exact .inl (.inl (.inl h'))
    · exact .inl (.inr h')
    · exact .inl (.inl (.inr h'))

theorem WDA_WD {anc : List Nat} {n : Nat} {K : St → Prop} : ∀ {l : List SO} {i : Nat} {σ : St} {tr : List TE}, i + l.length = n → (∀ x, x ∈ tr → x.i < n) → (∀ x, x ∈ tr → x.wr = [] ∨ bar anc n x.i = true) →
    WDA P base anc n i l σ K → WD P base anc i l σ tr K
  | [], i, σ, tr, _, h1, h2, h => ⟨fineW_bar (by simpa using h1) (by simpa using h2), h⟩
  | so :: l, i, σ, tr, hn, h1, h2, ⟨e, h3, h4, h5⟩ => by
    refine ⟨e, h3, WDA_WD (by simp at hn; omega) (fun x hx => ?_) (fun x hx => ?_) h5⟩
    · rcases List.mem_cons.1 hx with rfl | hx
      · simp at hn ⊢; omega
      · exact h1 x hx
    · rcases List.mem_cons.1 hx with rfl | hx
      · exact h4
      · exact h2 x hx

def realC (Q : SEx → St → Prop) (σ : St) : Prop := (∀ s, RealA (σ.sl s)) → Q .normal σ
theorem realC_ap (Q : SEx → St → Prop) : realC Q σ = ((∀ s, RealA (σ.sl s)) → Q .normal σ) := rfl
theorem realC_n {Q : SEx → St → Prop} (h : Q .normal σ) : realC Q σ := fun _ => h
def dC (P : Program) (base : Nat) (anc : List Nat) (n i : Nat) (l : List SO) (K : St → Prop) (σ : St) : Prop := WDA P base anc n i l σ K
@[simp] theorem dC_ap (anc : List Nat) (n i : Nat) (l : List SO) (K : St → Prop) : dC P base anc n i l K σ = WDA P base anc n i l σ K := rfl
theorem W_dregA {anc : List Nat} {l : List SO} {Q : SEx → St → Prop} (h : WDA P base anc l.length 0 l σ (realC Q)) : W P base (.dreg anc l) σ Q :=
  WDA_WD (by simp) (by simp) (by simp) h

@[simp] theorem WDA_nil (anc : List Nat) (n i : Nat) (K : St → Prop) : WDA P base anc n i [] σ K = K σ := rfl
@[simp] theorem WDA_cons (anc : List Nat) (n i : Nat) (so : SO) (l : List SO) (K : St → Prop) : WDA P base anc n i (so :: l) σ K = W1A P base (bar anc n i) so σ (dC P base anc n (i + 1) l K) := rfl
@[congr] theorem WDA_congr {anc : List Nat} {n i : Nat} {l : List SO} {σ σ' : St} {K : St → Prop} (h : σ = σ') : WDA P base anc n i l σ K = WDA P base anc n i l σ' K := by rw [h]
@[congr] theorem W1A_congr {ok : Bool} {so : SO} {σ σ' : St} {K : St → Prop} (h2 : σ = σ') : W1A P base ok so σ K = W1A P base ok so σ' K := by rw [h2]

/-- One operation, whatever it writes. -/
def WEA (ok : Bool) (o : Option Eff) (c : Prop) (σ : St) (d : Option Nat) (K : St → Prop) : Prop := WE o c fun e => (wrote e = [] ∨ ok = true) ∧ K (σ.ap d e)
@[congr] theorem WEA_congr {ok : Bool} {o o' : Option Eff} {c c' : Prop} {σ σ' : St} {d : Option Nat} {K : St → Prop} (h1 : o = o') (h2 : c = c') (h3 : σ = σ') : WEA ok o c σ d K = WEA ok o' c' σ' d K := by rw [h1, h2, h3]
@[simp] theorem WEA_pure (ok : Bool) (v : AV) (d : Nat) (K : St → Prop) : WEA ok (some (Eff.pure v)) True σ (some d) K = K (σ.set d v) := by simp [WEA, wrote]
@[simp] theorem WEA_look (ok : Bool) (v : AV) (l : List Nat) (d : Nat) (K : St → Prop) : WEA ok (some (Eff.look v l)) True σ (some d) K = K (σ.set d v) := by simp [WEA, wrote]
@[simp low] theorem WEA_pure' (ok : Bool) (v : AV) (d : Nat) (c : Prop) (K : St → Prop) : WEA ok (some (Eff.pure v)) c σ (some d) K = (c ∧ K (σ.set d v)) := by simp [WEA, wrote, WE_some]
@[simp low] theorem WEA_look' (ok : Bool) (v : AV) (l : List Nat) (d : Nat) (c : Prop) (K : St → Prop) : WEA ok (some (Eff.look v l)) c σ (some d) K = (c ∧ K (σ.set d v)) := by simp [WEA, wrote, WE_some]
theorem WEA_w0 (ok : Bool) (v : AV) (pur : List Nat) (put : List (Nat × Obj)) (rd : List Nat) (d : Option Nat) (K : St → Prop) (hok : ok = true) (h : K (σ.ap d ⟨v, pur, put, rd⟩)) : WEA ok (some ⟨v, pur, put, rd⟩) True σ d K := ⟨_, rfl, trivial, .inr hok, h⟩
@[simp] theorem WEA_new (ok : Bool) (v : AV) (k : Nat) (o : Obj) (rd : List Nat) (d : Nat) (c : Prop) (K : St → Prop) : WEA ok (some ⟨v, [k], [(k, o)], rd⟩) c σ (some d) K = (ok = true ∧ c ∧ K ((σ.new k o).set d v)) := by simp [WEA, WE_some, wrote]; exact ⟨fun h => ⟨h.2.1, h.1, h.2.2⟩, fun h => ⟨h.2.1, h.1, h.2.2⟩⟩
@[simp] theorem WEA_put (ok : Bool) (v : AV) (k : Nat) (o : Obj) (rd : List Nat) (c : Prop) (K : St → Prop) : WEA ok (some ⟨v, [], [(k, o)], rd⟩) c σ none K = (ok = true ∧ c ∧ K (σ.puto k o)) := by simp [WEA, WE_some, wrote]; exact ⟨fun h => ⟨h.2.1, h.1, h.2.2⟩, fun h => ⟨h.2.1, h.1, h.2.2⟩⟩
@[simp] theorem WEA_app (ok : Bool) (v : AV) (k k' : Nat) (o : Obj) (rd : List Nat) (d : Nat) (c : Prop) (K : St → Prop) : WEA ok (some ⟨v, [k, k'], [(k, o)], rd⟩) c σ (some d) K = (ok = true ∧ c ∧ K (if k = k' then (σ.new k o).set d v else ((σ.del k').new k o).set d v)) := by simp [WEA, WE_some, wrote]; exact ⟨fun h => ⟨h.2.1, h.1, h.2.2⟩, fun h => ⟨h.2.1, h.1, h.2.2⟩⟩
def WGA (o : Option Eff) (c : Prop) (β : Bool) (σ : St) (d : Option Nat) (K : St → Prop) : Prop := WG o c β σ d K

/-- A call. -/
def CallA (P : Program) (ok : Bool) (σ : St) (fv : AV) (xs : List AV) (d : Option Nat) (K : St → Prop) : Prop :=
  ∃ fn k1 k2 ins outs res pur ps, CallSem P σ true fv xs fn k1 k2 ins outs res pur ∧ PutOf ins outs pur ps ∧ (pur ++ ps.map (·.1) = [] ∨ ok = true) ∧ K (σ.ap d ⟨res, pur, ps, ins.map (·.1)⟩)
def GCallA (P : Program) (σ : St) (β : Bool) (fv : AV) (xs : List AV) (d : Option Nat) (K : St → Prop) : Prop :=
  ∃ fn k1 k2 ins outs res, CallSem P σ β fv xs fn k1 k2 ins outs res [] ∧ PutOf ins outs [] [] ∧ K (σ.ap d ⟨.gd β res, [], [], ins.map (·.1)⟩)
@[congr] theorem CallA_congr {ok : Bool} {σ σ' : St} {fv fv' : AV} {xs xs' : List AV} {d : Option Nat} {K : St → Prop} (h : σ = σ') (h1 : fv = fv') (h2 : xs = xs') : CallA P ok σ fv xs d K = CallA P ok σ' fv' xs' d K := by rw [h, h1, h2]
@[congr] theorem GCallA_congr {σ σ' : St} {β β' : Bool} {fv fv' : AV} {xs xs' : List AV} {d : Option Nat} {K : St → Prop} (h : σ = σ') (h0 : β = β') (h1 : fv = fv') (h2 : xs = xs') : GCallA P σ β fv xs d K = GCallA P σ' β' fv' xs' d K := by rw [h, h0, h1, h2]
theorem CallA.fn {ok : Bool} {d fn : Nat} {xs args : List AV} {res : AV} {K : St → Prop} (hs : Fn P fn args res) (ha : xs.map (fun x => toD2 σ (un x)) = args)
    (h2 : ∀ x, x ∈ xs → gok true x) (h4 : res.keys2 = []) (hK : K (σ.set d res)) : CallA P ok σ (.c (.clo fn [] [])) xs (some d) K := by
  subst ha
  exact ⟨fn, [], [], [], [], res, [], [], call_sem rfl trivial h2 (fun _ => hs) h4, .inl rfl, .inl rfl, hK⟩
theorem GCallA.fn {d fn : Nat} {β : Bool} {xs args : List AV} {res : AV} {K : St → Prop} (hs : β = true → Fn P fn args res) (ha : xs.map (fun x => toD2 σ (un x)) = args)
    (h2 : ∀ x, x ∈ xs → gok β x) (h4 : res.keys2 = []) (hK : K (σ.set d (.gd β res))) : GCallA P σ β (.c (.clo fn [] [])) xs (some d) K := by
  subst ha
  exact ⟨fn, [], [], [], [], res, call_sem rfl trivial h2 hs h4, .inl rfl, hK⟩

def WA1 (P : Program) (base : Nat) (ok : Bool) (so : SO) (σ : St) (K : St → Prop) : Prop := W1A P base ok so σ K
theorem W1A_plain {ok : Bool} {d : Option Nat} {op : SOp} {K : St → Prop} (h : op.isCall = false) : W1A P base ok ⟨d, none, op⟩ σ K = WEA ok (ev1 (base + d.getD 0) σ.ev σ op) (cond true σ.ev σ op) σ d K := by
  apply propext
  cases op <;> first
    | (simp [SOp.isCall] at h; done)
    | skip
  all_goals
    simp only [W1A, SemO, gdOf, mkGd, WEA, WE, evG_none, condG_none]
    constructor
    · rintro ⟨e, ⟨β, hβ, e0, h1, h2, h3, rfl⟩, h4, h5⟩
      cases hβ
      exact ⟨_, h1, h2, h4, h5⟩
    · rintro ⟨e, h1, h2, h3, h4⟩
      exact ⟨e, ⟨true, rfl, e, h1, h2, fun h => absurd rfl h, rfl⟩, h3, h4⟩
theorem W1A_gd {ok : Bool} {d : Option Nat} {s : Nat} {want : Bool} {op : SOp} {K : St → Prop} (h : op.isCall = false) : W1A P base ok ⟨d, some (s, want), op⟩ σ K = gbK (gb (σ.sl s) want) (fun β => WG (ev1 (base + d.getD 0) σ.ev σ op) (cond β σ.ev σ op) β σ d K) := by
  apply propext
  cases op <;> first
    | (simp [SOp.isCall] at h; done)
    | skip
  all_goals
    simp only [W1A, SemO, gdOf, mkGd, gbK, WG, WE, evG_gW, condG_gC]
    constructor
    · rintro ⟨e, ⟨β, hβ, e0, h1, h2, h3, rfl⟩, h4, h5⟩
      obtain ⟨q1, q2⟩ := h3 (by simp)
      rw [q1, q2] at h5
      exact ⟨β, hβ, e0, h1, h2, q1, q2, h5⟩
    · rintro ⟨β, hβ, e, h1, h2, q1, q2, h3⟩
      refine ⟨⟨.gd β e.val, [], [], e.rd⟩, ⟨β, hβ, e, h1, h2, fun _ => ⟨q1, q2⟩, ?_⟩, .inl rfl, h3⟩
      rw [q1, q2]
@[simp] theorem W1A_none {ok : Bool} {d : Option Nat} {op : SOp} {K : St → Prop} : W1A P base ok ⟨d, none, op⟩ σ K = if op.isCall = true then WA1 P base ok ⟨d, none, op⟩ σ K else WEA ok (ev1 (base + d.getD 0) σ.ev σ op) (cond true σ.ev σ op) σ d K := by
  by_cases h : op.isCall = true
  · rw [if_pos h]; rfl
  · rw [if_neg h]; exact W1A_plain (by simpa using h)
@[simp] theorem W1A_some {ok : Bool} {d : Option Nat} {s : Nat} {want : Bool} {op : SOp} {K : St → Prop} : W1A P base ok ⟨d, some (s, want), op⟩ σ K = if op.isCall = true then WA1 P base ok ⟨d, some (s, want), op⟩ σ K else gbK (gb (σ.sl s) want) (gdC base op σ d K) := by
  by_cases h : op.isCall = true
  · rw [if_pos h]; rfl
  · rw [if_neg h]; exact W1A_gd (by simpa using h)
@[congr] theorem WA1_congr {ok : Bool} {so : SO} {σ σ' : St} {K : St → Prop} (h2 : σ = σ') : WA1 P base ok so σ K = WA1 P base ok so σ' K := by rw [h2]
@[simp] theorem WA1_eq {ok : Bool} {d : Option Nat} {f : SArg} {xs : List SArg} {K : St → Prop} : WA1 P base ok ⟨d, none, .call f xs⟩ σ K = CallA P ok σ (σ.ev f) (xs.map σ.ev) d K := by
  apply propext
  constructor
  · rintro ⟨e, ⟨β, hβ, fn, k1, k2, ins, outs, res, pur, ps, h1, hp, _, rfl⟩, h2, h3⟩
    cases hβ
    exact ⟨fn, k1, k2, ins, outs, res, pur, ps, h1, hp, h2, h3⟩
  · rintro ⟨fn, k1, k2, ins, outs, res, pur, ps, h1, hp, h2, h3⟩
    exact ⟨_, ⟨true, rfl, fn, k1, k2, ins, outs, res, pur, ps, h1, hp, fun h => absurd rfl h, rfl⟩, h2, h3⟩
def gaC (P : Program) (σ : St) (fv : AV) (xs : List AV) (d : Option Nat) (K : St → Prop) (β : Bool) : Prop := GCallA P σ β fv xs d K
@[simp] theorem gaC_ap (fv : AV) (xs : List AV) (d : Option Nat) (K : St → Prop) (β : Bool) : gaC P σ fv xs d K β = GCallA P σ β fv xs d K := rfl
@[simp] theorem WA1G_eq {ok : Bool} {d : Option Nat} {s : Nat} {want : Bool} {f : SArg} {xs : List SArg} {K : St → Prop} : WA1 P base ok ⟨d, some (s, want), .call f xs⟩ σ K = gbK (gb (σ.sl s) want) (gaC P σ (σ.ev f) (xs.map σ.ev) d K) := by
  apply propext
  constructor
  · rintro ⟨e, ⟨β, hβ, fn, k1, k2, ins, outs, res, pur, ps, h1, hp, hg, rfl⟩, h2, h3⟩
    obtain ⟨rfl, rfl⟩ := hg (by simp)
    exact ⟨β, hβ, fn, k1, k2, ins, outs, res, h1, hp, h3⟩
  · rintro ⟨β, hβ, fn, k1, k2, ins, outs, res, h1, hp, h3⟩
    exact ⟨_, ⟨β, hβ, fn, k1, k2, ins, outs, res, [], [], h1, hp, fun _ => ⟨rfl, rfl⟩, rfl⟩, .inl rfl, h3⟩

end Go.Abs

namespace Go.Abs

variable {P : Program} {base : Nat} {σ : St} {key : Nat} {ρ : SArg → AV} {β : Bool}

/-! ### a region in any order, in which one object is laid that no other operation looks at -/
structure FX where
  anc : List Nat
  n : Nat
  i0 : Nat
  kf : List Nat

def FX.rel (X : FX) (i : Nat) : Bool := (X.anc.getD X.i0 0).testBit i || (X.anc.getD i 0).testBit X.i0
def okF' (X : FX) (base i : Nat) (so : SO) (σ : St) (e : Eff) : Prop := bar X.anc X.n i = true ∨ (i = X.i0 ∧ ∀ k, k ∈ wrote e → k ∈ X.kf) ∨ (wrote e = [] ∧ (X.rel i = true ∨ ∀ k, k ∈ X.kf → k ∉ lkOf base so σ e))
def W1F (P : Program) (base : Nat) (X : FX) (i : Nat) (so : SO) (σ : St) (K : St → Prop) : Prop := ∃ e, SemO P base so σ e ∧ okF' X base i so σ e ∧ K (σ.ap so.dst e)
def WDF (P : Program) (base : Nat) (X : FX) : Nat → List SO → St → (St → Prop) → Prop
  | _, [], σ, K => K σ
  | i, so :: l, σ, K => W1F P base X i so σ fun σ' => WDF P base X (i + 1) l σ' K

theorem fineW_F {X : FX} {tr : List TE} (h1 : ∀ x, x ∈ tr → x.i < X.n) (h2 : ∀ x, x ∈ tr → bar X.anc X.n x.i = true ∨ (x.i = X.i0 ∧ ∀ k, k ∈ x.wr → k ∈ X.kf) ∨ (x.wr = [] ∧ (X.rel x.i = true ∨ ∀ k, k ∈ X.kf → k ∉ x.lk))) : fineW X.anc tr = true := by
  have hbar : ∀ x y, x ∈ tr → y ∈ tr → bar X.anc X.n x.i = true → x.i = y.i ∨ (X.anc.getD y.i 0).testBit x.i = true ∨ (X.anc.getD x.i 0).testBit y.i = true := fun x y hx hy h => by
    simp only [bar, List.all_eq_true, List.mem_range] at h
    have := h y.i (h1 y hy)
    simp only [Bool.or_eq_true, decide_eq_true_eq] at this
    rcases this with (h' | h') | h'
    · exact .inl h'
    · exact .inr (.inr h')
    · exact .inr (.inl h')
  simp only [fineW, List.all_eq_true, List.mem_filter]
  rintro x ⟨hx, hw⟩ y hy
  simp only [Bool.or_eq_true, decide_eq_true_eq]
  rcases h2 x hx with h | ⟨hi, hwr⟩ | ⟨h, _⟩
  · rcases hbar x y hx hy h with h' | h' | h'
    · exact .inl (.inl (.inl h'))
    · exact .inl (.inl (.inr h'))
    · exact .inl (.inr h')
  · rcases h2 y hy with h | ⟨hj, _⟩ | ⟨hyw, hyl⟩
    · rcases hbar y x hy hx h with h' | h' | h'
      · exact .inl (.inl (.inl h'.symm))
      · exact .inl (.inr h')
      · exact .inl (.inl (.inr h'))
    · exact .inl (.inl (.inl (hi.trans hj.symm)))
    · rcases hyl with hyr | hyl
      · rw [hi]
        simp only [FX.rel, Bool.or_eq_true] at hyr
        rcases hyr with h' | h'
        · exact .inl (.inr h')
        · exact .inl (.inl (.inr h'))
      refine .inr ?_
      simp only [kOK, hyw, List.all_nil, Bool.and_true, List.all_eq_true]
      intro k hk
      simpa using hyl k (hwr k hk)
  · rw [h] at hw; simp at hw

theorem WDF_WD {X : FX} {K : St → Prop} : ∀ {l : List SO} {i : Nat} {σ : St} {tr : List TE}, i + l.length = X.n → (∀ x, x ∈ tr → x.i < X.n) → (∀ x, x ∈ tr → bar X.anc X.n x.i = true ∨ (x.i = X.i0 ∧ ∀ k, k ∈ x.wr → k ∈ X.kf) ∨ (x.wr = [] ∧ (X.rel x.i = true ∨ ∀ k, k ∈ X.kf → k ∉ x.lk))) →
    WDF P base X i l σ K → WD P base X.anc i l σ tr K
  | [], i, σ, tr, _, h1, h2, h => ⟨fineW_F (by simpa using h1) (by simpa using h2), h⟩
  | so :: l, i, σ, tr, hn, h1, h2, ⟨e, h3, h4, h5⟩ => by
    refine ⟨e, h3, WDF_WD (by simp at hn; omega) (fun x hx => ?_) (fun x hx => ?_) h5⟩
    · rcases List.mem_cons.1 hx with rfl | hx
      · simp at hn ⊢; omega
      · exact h1 x hx
    · rcases List.mem_cons.1 hx with rfl | hx
      · exact h4
      · exact h2 x hx

theorem W_dregF {anc : List Nat} {l : List SO} {Q : SEx → St → Prop} (i0 : Nat) (kf : List Nat) (h : WDF P base ⟨anc, l.length, i0, kf⟩ 0 l σ (realC Q)) : W P base (.dreg anc l) σ Q :=
  WDF_WD (X := ⟨anc, l.length, i0, kf⟩) (by simp) (by simp) (by simp) h

/-- What an operation looks at, as a list of values. -/
def seesF (kf : List Nat) (own : Nat) (xs : List AV) (rd : List Nat) : Prop := own ∉ kf ∧ (∀ x, x ∈ xs → ∀ k, k ∈ (un x).keys2 → k ∉ kf) ∧ ∀ k, k ∈ rd → k ∉ kf
theorem sees_lk {X : FX} {so : SO} {e : Eff} (h : seesF X.kf (base + so.dst.getD 0) (so.op.args.map σ.ev) e.rd) (hw : wrote e = []) : ∀ k, k ∈ X.kf → k ∉ lkOf base so σ e := by
  obtain ⟨h1, h2, h3⟩ := h
  intro k hk
  simp only [lkOf, hw, List.append_nil, List.mem_cons, List.mem_append, not_or]
  refine ⟨fun h => h1 (h ▸ hk), ?_, fun h => h3 k h hk⟩
  simp only [opKeys, List.mem_flatMap, not_exists, not_and]
  exact fun x hx hm => h2 _ (List.mem_map_of_mem hx) k hm hk

/-- The evaluation's own form: one operation. -/
def WEF (P : Program) (base : Nat) (X : FX) (i : Nat) (o : Option Eff) (c : Prop) (xs : List AV) (σ : St) (d : Option Nat) (K : St → Prop) : Prop :=
  ∃ e, o = some e ∧ c ∧ (bar X.anc X.n i = true ∨ (i = X.i0 ∧ ∀ k, k ∈ wrote e → k ∈ X.kf) ∨ (wrote e = [] ∧ (X.rel i = true ∨ seesF X.kf (base + d.getD 0) xs e.rd))) ∧ K (σ.ap d e)
theorem W1F_of {X : FX} {i : Nat} {d : Option Nat} {op : SOp} {K : St → Prop} (hc : op.isCall = false) (h : WEF P base X i (ev1 (base + d.getD 0) σ.ev σ op) (cond true σ.ev σ op) (op.args.map σ.ev) σ d K) : W1F P base X i ⟨d, none, op⟩ σ K := by
  obtain ⟨e, he, hcd, ho, hK⟩ := h
  refine ⟨e, ⟨true, rfl, ?_⟩, ?_, hK⟩
  · cases op <;> first
      | (simp [SOp.isCall] at hc; done)
      | exact ⟨_, by simpa using he, by simpa only [condG_none] using hcd, fun h => absurd rfl h, rfl⟩
  · rcases ho with h | h | ⟨h1, h2⟩
    · exact .inl h
    · exact .inr (.inl h)
    · exact .inr (.inr ⟨h1, h2.imp id fun h2 => sees_lk (so := ⟨d, none, op⟩) h2 h1⟩)

def FCall (P : Program) (base : Nat) (X : FX) (i : Nat) (fv : AV) (xs : List AV) (σ : St) (d : Option Nat) (K : St → Prop) : Prop :=
  (∃ fn res, CallSem P σ true fv xs fn [] [] [] [] res [] ∧ (X.rel i = true ∨ seesF X.kf (base + d.getD 0) (fv :: xs) []) ∧ K (σ.ap d ⟨res, [], [], []⟩)) ∨
  ∃ fn k1 k2 ins outs res, CallSem P σ true fv xs fn k1 k2 ins outs res [] ∧ i = X.i0 ∧ (∀ k, k ∈ outs.map (·.1) → k ∈ X.kf) ∧ K (σ.ap d ⟨res, [], objsOf outs, ins.map (·.1)⟩)
def W1E (P : Program) (base : Nat) (X : FX) (i : Nat) (so : SO) (σ : St) (K : St → Prop) : Prop := match so with
  | ⟨d, none, .call f xs⟩ => FCall P base X i (σ.ev f) (xs.map σ.ev) σ d K
  | ⟨d, none, op⟩ => WEF P base X i (ev1 (base + d.getD 0) σ.ev σ op) (cond true σ.ev σ op) (op.args.map σ.ev) σ d K
  | ⟨_, some _, _⟩ => False
def WDE (P : Program) (base : Nat) (X : FX) : Nat → List SO → St → (St → Prop) → Prop
  | _, [], σ, K => K σ
  | i, so :: l, σ, K => W1E P base X i so σ fun σ' => WDE P base X (i + 1) l σ' K

theorem W1E_F {X : FX} {i : Nat} {so : SO} {K : St → Prop} (h : W1E P base X i so σ K) : W1F P base X i so σ K := by
  obtain ⟨d, gd, op⟩ := so
  cases gd with
  | some g => cases op <;> exact h.elim
  | none =>
    cases op
    case call f xs =>
      rcases h with ⟨fn, res, h1, h2, h3⟩ | ⟨fn, k1, k2, ins, outs, res, h1, h2, h3, h4⟩
      · exact ⟨⟨res, [], [], []⟩, ⟨true, rfl, fn, [], [], [], [], res, [], [], h1, .inl rfl, fun h => absurd rfl h, rfl⟩, .inr (.inr ⟨rfl, h2.imp id fun h2 => sees_lk (so := ⟨d, none, .call f xs⟩) h2 rfl⟩), h3⟩
      · refine ⟨_, ⟨true, rfl, fn, k1, k2, ins, outs, res, [], _, h1, .inl rfl, fun h => absurd rfl h, rfl⟩, .inr (.inl ⟨h2, fun k hk => h3 k ?_⟩), h4⟩
        simpa [wrote, objsOf, Function.comp_def] using hk
    all_goals exact W1F_of rfl h
theorem WDE_F {X : FX} {K : St → Prop} : ∀ {l : List SO} {i : Nat} {σ : St}, WDE P base X i l σ K → WDF P base X i l σ K
  | [], _, _, h => h
  | so :: l, i, σ, h => by
    obtain ⟨e, h1, h2, h3⟩ := W1E_F h
    exact ⟨e, h1, h2, WDE_F h3⟩
theorem W_dregE {anc : List Nat} {l : List SO} {Q : SEx → St → Prop} (i0 : Nat) (kf : List Nat) (h : WDE P base ⟨anc, l.length, i0, kf⟩ 0 l σ (realC Q)) : W P base (.dreg anc l) σ Q := W_dregF i0 kf (WDE_F h)

def eC (P : Program) (base : Nat) (X : FX) (i : Nat) (l : List SO) (K : St → Prop) (σ : St) : Prop := WDE P base X i l σ K
@[simp] theorem eC_ap (X : FX) (i : Nat) (l : List SO) (K : St → Prop) : eC P base X i l K σ = WDE P base X i l σ K := rfl
@[simp] theorem WDE_nil (X : FX) (i : Nat) (K : St → Prop) : WDE P base X i [] σ K = K σ := rfl
@[simp] theorem WDE_call (X : FX) (i : Nat) (d : Option Nat) (f : SArg) (xs : List SArg) (l : List SO) (K : St → Prop) : WDE P base X i (⟨d, none, .call f xs⟩ :: l) σ K = FCall P base X i (σ.ev f) (xs.map σ.ev) σ d (eC P base X (i + 1) l K) := rfl
theorem W1E_op (X : FX) (i : Nat) (d : Option Nat) (op : SOp) (K : St → Prop) (h : op.isCall = false) : W1E P base X i ⟨d, none, op⟩ σ K = WEF P base X i (ev1 (base + d.getD 0) σ.ev σ op) (cond true σ.ev σ op) (op.args.map σ.ev) σ d K := by
  cases op <;> first
    | (simp [SOp.isCall] at h; done)
    | rfl
def W1E' (P : Program) (base : Nat) (X : FX) (i : Nat) (so : SO) (σ : St) (K : St → Prop) : Prop := W1E P base X i so σ K
@[simp] theorem W1Ec (X : FX) (i : Nat) (d : Option Nat) (f : SArg) (xs : List SArg) (K : St → Prop) : W1E' P base X i ⟨d, none, .call f xs⟩ σ K = FCall P base X i (σ.ev f) (xs.map σ.ev) σ d K := rfl
@[simp] theorem WDE_op (X : FX) (i : Nat) (d : Option Nat) (op : SOp) (l : List SO) (K : St → Prop) : WDE P base X i (⟨d, none, op⟩ :: l) σ K =
    if op.isCall = true then W1E' P base X i ⟨d, none, op⟩ σ (eC P base X (i + 1) l K) else WEF P base X i (ev1 (base + d.getD 0) σ.ev σ op) (cond true σ.ev σ op) (op.args.map σ.ev) σ d (eC P base X (i + 1) l K) := by
  by_cases h : op.isCall = true
  · rw [if_pos h]; rfl
  · rw [if_neg h]; exact W1E_op X i d op _ (by simpa using h)
@[simp] theorem WEF_pure (X : FX) (i d : Nat) (v : AV) (c : Prop) (xs : List AV) (K : St → Prop) : WEF P base X i (some (Eff.pure v)) c xs σ (some d) K = (c ∧ (bar X.anc X.n i = true ∨ i = X.i0 ∨ X.rel i = true ∨ seesF X.kf (base + d) xs []) ∧ K (σ.set d v)) := by
  simp [WEF, wrote]
@[simp] theorem WEF_look (X : FX) (i d : Nat) (v : AV) (rd : List Nat) (c : Prop) (xs : List AV) (K : St → Prop) : WEF P base X i (some (Eff.look v rd)) c xs σ (some d) K = (c ∧ (bar X.anc X.n i = true ∨ i = X.i0 ∨ X.rel i = true ∨ seesF X.kf (base + d) xs rd) ∧ K (σ.set d v)) := by
  simp [WEF, wrote]
@[simp] theorem WEF_new (X : FX) (i d k : Nat) (v : AV) (o : Obj) (rd : List Nat) (c : Prop) (xs : List AV) (K : St → Prop) : WEF P base X i (some ⟨v, [k], [(k, o)], rd⟩) c xs σ (some d) K = (c ∧ (bar X.anc X.n i = true ∨ (i = X.i0 ∧ k ∈ X.kf)) ∧ K ((σ.new k o).set d v)) := by
  simp [WEF, wrote]
@[simp] theorem WEF_put (X : FX) (i k : Nat) (v : AV) (o : Obj) (rd : List Nat) (c : Prop) (xs : List AV) (K : St → Prop) : WEF P base X i (some ⟨v, [], [(k, o)], rd⟩) c xs σ none K = (c ∧ (bar X.anc X.n i = true ∨ (i = X.i0 ∧ k ∈ X.kf)) ∧ K (σ.puto k o)) := by
  simp [WEF, wrote]
@[simp] theorem seesF_eq (kf : List Nat) (own : Nat) (xs : List AV) (rd : List Nat) : seesF kf own xs rd = (own ∉ kf ∧ (∀ x, x ∈ xs → ∀ k, k ∈ (un x).keys2 → k ∉ kf) ∧ ∀ k, k ∈ rd → k ∉ kf) := rfl
@[congr] theorem WEF_congr {X : FX} {i : Nat} {o o' : Option Eff} {c c' : Prop} {xs xs' : List AV} {σ σ' : St} {d : Option Nat} {K : St → Prop} (h1 : o = o') (h2 : c = c') (h3 : xs = xs') (h4 : σ = σ') : WEF P base X i o c xs σ d K = WEF P base X i o' c' xs' σ' d K := by rw [h1, h2, h3, h4]
@[congr] theorem FCall_congr {X : FX} {i : Nat} {fv fv' : AV} {xs xs' : List AV} {σ σ' : St} {d : Option Nat} {K : St → Prop} (h1 : fv = fv') (h2 : xs = xs') (h3 : σ = σ') : FCall P base X i fv xs σ d K = FCall P base X i fv' xs' σ' d K := by rw [h1, h2, h3]
theorem FCall.fn {X : FX} {i d fn : Nat} {xs args : List AV} {res : AV} {K : St → Prop} (hs : Fn P fn args res) (ha : xs.map (fun x => toD2 σ (un x)) = args) (h2 : ∀ x, x ∈ xs → gok true x) (h4 : res.keys2 = [])
    (h5 : base + d ∉ X.kf) (h6 : ∀ x, x ∈ xs → ∀ k, k ∈ (un x).keys2 → k ∉ X.kf) (hK : K (σ.set d res)) : FCall P base X i (.c (.clo fn [] [])) xs σ (some d) K := by
  subst ha
  refine .inl ⟨fn, res, call_sem rfl trivial h2 (fun _ => hs) h4, .inr ⟨h5, fun x hx => ?_, by simp⟩, hK⟩
  rcases List.mem_cons.1 hx with rfl | hx
  · simp [AV.keys2, AV.keys1, Cell.keys]
  · exact h6 x hx
@[simp] theorem k2_v (v : Value) : AV.keys2 (.c (.v v)) = [] := rfl
@[simp] theorem k2_ref (k t off : Nat) : AV.keys2 (.c (.ref k t off)) = [k] := rfl
@[simp] theorem k2_own (k t : Nat) : AV.keys2 (.c (.own k t)) = [k] := rfl
@[simp] theorem k2_elw (k t sz i j : Nat) : AV.keys2 (.c (.elw k t sz i j)) = [k] := rfl
@[simp] theorem k2_sl (sz bs : Nat) (es : List (List Cell)) : AV.keys2 (.c (.sl sz bs es)) = [] := rfl
@[simp] theorem k2_cap (sz bs : Nat) (es : List (List Cell)) : AV.keys2 (.c (.cap sz bs es)) = [] := rfl
@[simp] theorem k2_elp (cs : List Cell) (j : Nat) : AV.keys2 (.c (.elp cs j)) = [] := rfl
@[simp] theorem k2_agg (cs : List Cell) : AV.keys2 (.agg cs) = keysCs cs := rfl
@[simp] theorem k1_agg (cs : List Cell) : AV.keys1 (.agg cs) = keysCs cs := rfl
@[simp] theorem k1_v (v : Value) : AV.keys1 (.c (.v v)) = [] := rfl
@[simp] theorem k1_sl (sz bs : Nat) (es : List (List Cell)) : AV.keys1 (.c (.sl sz bs es)) = [] := rfl
@[simp] theorem k1_cap (sz bs : Nat) (es : List (List Cell)) : AV.keys1 (.c (.cap sz bs es)) = [] := rfl

end Go.Abs

namespace Go.Abs

variable {P : Program} {base : Nat} {σ : St} {key : Nat} {ρ : SArg → AV} {β : Bool}

/-! ### calls that write the boxes a closure holds -/
def St.puts (σ : St) (l : Objs) : St := { σ with ob := fun k => match l.lookup k with | some (_, q) => some q | none => σ.ob k }
@[simp] theorem puts_sl (l : Objs) : (σ.puts l).sl = σ.sl := rfl
@[simp] theorem puts_tg (l : Objs) : (σ.puts l).tg = σ.tg := rfl
theorem puts_some {l : Objs} {k t : Nat} {q : Obj} (h : l.lookup k = some (t, q)) : (σ.puts l).ob k = some q := by simp only [St.puts, h]
theorem puts_none {l : Objs} {k : Nat} (h : l.lookup k = none) : (σ.puts l).ob k = σ.ob k := by simp only [St.puts, h]
theorem ap_puts (d : Nat) (v : AV) (l : Objs) (rd : List Nat) : σ.ap (some d) ⟨v, [], objsOf l, rd⟩ = (σ.puts l).set d v := by
  refine st_ext (fun s => rfl) (fun k => ?_) fun k => rfl
  simp only [St.ap, obAfter, St.puts, St.set, lookup_objsOf]
  cases l.lookup k with
  | none => rfl
  | some x => rfl

/-- The boxes lie there. -/
def Holds (σ : St) (l : Objs) : Prop := ∀ k t q, l.lookup k = some (t, q) → σ.ob k = some q ∧ σ.tg k = t
/-- Two lists of boxes under the same keys, with the same tags; the boxes hold data. -/
structure Kin (l m : Objs) : Prop where
  there : ∀ k t q, l.lookup k = some (t, q) → ∃ q', m.lookup k = some (t, q')
  back : ∀ k t q, m.lookup k = some (t, q) → ∃ q', l.lookup k = some (t, q')
  data : ∀ k t q, m.lookup k = some (t, q) → q.keys = []

theorem obj_sem {fv : AV} {xs : List AV} {fn : Nat} {rs : List (Nat × Nat)} {ins outs : Objs} {res : AV} (h0 : un fv = .c (.clo fn [] rs)) (h1 : gok true fv) (h2 : ∀ x, x ∈ xs → gok true x)
    (h3 : Spec P fn (xs.map (fun x => toD2 σ (un x)) ++ refs rs) ins res outs) (h4 : res.keys2 = []) (hh : Holds σ ins) (hk : Kin ins outs) : CallSem P σ true fv xs fn [] rs ins outs res [] where
  c0 := h0
  gf := h1
  gx := h2
  cs _ := by simpa [refs] using h3
  ci k t q h := by
    obtain ⟨a, b⟩ := hh k t q h
    obtain ⟨q', hq⟩ := hk.there k t q h
    exact ⟨a, b, by rw [hq]; rfl⟩
  co k t q h := by
    obtain ⟨q', hq⟩ := hk.back k t q h
    exact .inr ⟨by simp, (hh k t q' hq).2.symm, q', hq⟩
  cp k h := by simp at h
  kres k h := by rw [h4] at h; cases h
  kobs k t q h := by
    intro k' hk'
    rw [hk.data k t q h] at hk'
    cases hk'

theorem ECall.obj {d fn : Nat} {rs : List (Nat × Nat)} {xs args : List AV} {ins outs : Objs} {res : AV} {K : St → Prop} (hs : Spec P fn (args ++ refs rs) ins res outs) (ha : xs.map (fun x => toD2 σ (un x)) = args)
    (h2 : ∀ x, x ∈ xs → gok true x) (h4 : res.keys2 = []) (hh : Holds σ ins) (hk : Kin ins outs) (hK : RealA res → K ((σ.puts outs).set d res)) : ECall P σ (.c (.clo fn [] rs)) xs (some d) K := by
  subst ha
  refine ⟨fn, [], rs, ins, outs, res, [], _, obj_sem rfl trivial h2 hs h4 hh hk, .inl rfl, fun h => ?_⟩
  rw [ap_puts]
  exact hK (h d rfl)
theorem FCall.obj {X : FX} {i d fn : Nat} {rs : List (Nat × Nat)} {xs args : List AV} {ins outs : Objs} {res : AV} {K : St → Prop} (hi : i = X.i0) (hs : Spec P fn (args ++ refs rs) ins res outs) (ha : xs.map (fun x => toD2 σ (un x)) = args)
    (h2 : ∀ x, x ∈ xs → gok true x) (h4 : res.keys2 = []) (hh : Holds σ ins) (hk : Kin ins outs) (hX : ∀ k, k ∈ outs.map (·.1) → k ∈ X.kf) (hK : K ((σ.puts outs).set d res)) : FCall P base X i (.c (.clo fn [] rs)) xs σ (some d) K := by
  subst ha
  refine .inr ⟨fn, [], rs, ins, outs, res, obj_sem rfl trivial h2 hs h4 hh hk, hi, hX, ?_⟩
  rw [ap_puts]
  exact hK

end Go.Abs

namespace Go.Abs

variable {P : Program} {base : Nat} {σ : St} {key : Nat} {ρ : SArg → AV} {β : Bool}

/-! ### a region in any order, each operation with the keys that it may write and those that it must not look at -/
def relA (anc : List Nat) (i j : Nat) : Bool := (anc.getD j 0).testBit i || (anc.getD i 0).testBit j
def okTab (anc : List Nat) (n : Nat) (ws fs : List (List Nat)) : Bool :=
  (List.range n).all fun i => match ws.getD i [] with
    | [] => true
    | l => (List.range n).all fun j => decide (i = j) || relA anc i j || l.all fun k => (fs.getD j []).contains k

theorem okTab_spec {anc : List Nat} {n : Nat} {ws fs : List (List Nat)} (h : okTab anc n ws fs = true) {i j k : Nat} (hi : i < n) (hj : j < n) (hk : k ∈ ws.getD i []) : i = j ∨ relA anc i j = true ∨ k ∈ fs.getD j [] := by
  simp only [okTab, List.all_eq_true, List.mem_range] at h
  have h1 := h i hi
  split at h1
  · rename_i e; rw [e] at hk; cases hk
  · have h2 := List.all_eq_true.1 h1 j (List.mem_range.2 hj)
    simp only [Bool.or_eq_true, decide_eq_true_eq] at h2
    rcases h2 with (h2 | h2) | h2
    · exact .inl h2
    · exact .inr (.inl h2)
    · refine .inr (.inr ?_)
      have h3 := List.all_eq_true.1 h2 k hk
      simpa using h3

def okLk (fb : List Nat) (l : List Nat) : Prop := ∀ k, k ∈ fb → k ∉ l
@[simp] theorem okLk_nil (l : List Nat) : okLk [] l = True := by simp [okLk]
@[simp] theorem okLk_cons (k : Nat) (fb l : List Nat) : okLk (k :: fb) l = (k ∉ l ∧ okLk fb l) := by simp [okLk]

def W1D (P : Program) (base : Nat) (wk fb : List Nat) (so : SO) (σ : St) (K : St → Prop) : Prop := ∃ e, SemO P base so σ e ∧ (∀ k, k ∈ wrote e → k ∈ wk) ∧ okLk fb (lkOf base so σ e) ∧ K (σ.ap so.dst e)
def WDD (P : Program) (base : Nat) : List SO → List (List Nat) → List (List Nat) → St → (St → Prop) → Prop
  | [], _, _, σ, K => K σ
  | so :: l, wk :: ws, fb :: fs, σ, K => W1D P base wk fb so σ fun σ' => WDD P base l ws fs σ' K
  | _ :: _, _, _, _, _ => False

theorem fineW_D {anc : List Nat} {n : Nat} {ws fs : List (List Nat)} (ht : okTab anc n ws fs = true) {tr : List TE} (h1 : ∀ x, x ∈ tr → x.i < n) (h2 : ∀ x, x ∈ tr → (∀ k, k ∈ x.wr → k ∈ ws.getD x.i []) ∧ ∀ k, k ∈ fs.getD x.i [] → k ∉ x.lk) : fineW anc tr = true := by
  simp only [fineW, List.all_eq_true, List.mem_filter]
  rintro x ⟨hx, hw⟩ y hy
  simp only [Bool.or_eq_true, decide_eq_true_eq]
  by_cases e : x.i = y.i
  · exact .inl (.inl (.inl e))
  by_cases r : relA anc x.i y.i = true
  · simp only [relA, Bool.or_eq_true] at r
    rcases r with r | r
    · exact .inl (.inl (.inr r))
    · exact .inl (.inr r)
  have r' : ¬ relA anc y.i x.i = true := by
    intro h; apply r
    simp only [relA, Bool.or_eq_true] at h ⊢
    exact h.symm
  refine .inr ?_
  simp only [kOK, Bool.and_eq_true, List.all_eq_true]
  constructor
  · intro k hk
    rcases okTab_spec ht (h1 x hx) (h1 y hy) ((h2 x hx).1 k hk) with h | h | h
    · exact absurd h e
    · exact absurd h r
    · simpa using (h2 y hy).2 k h
  · intro k hk
    rcases okTab_spec ht (h1 y hy) (h1 x hx) ((h2 y hy).1 k hk) with h | h | h
    · exact absurd h.symm e
    · exact absurd h r'
    · simpa using (h2 x hx).2 k h

theorem WDD_WD {anc : List Nat} {n : Nat} {ws fs : List (List Nat)} (ht : okTab anc n ws fs = true) {K : St → Prop} : ∀ {l : List SO} {i : Nat} {σ : St} {tr : List TE}, i + l.length = n → (∀ x, x ∈ tr → x.i < n) →
    (∀ x, x ∈ tr → (∀ k, k ∈ x.wr → k ∈ ws.getD x.i []) ∧ ∀ k, k ∈ fs.getD x.i [] → k ∉ x.lk) → WDD P base l (ws.drop i) (fs.drop i) σ K → WD P base anc i l σ tr K
  | [], i, σ, tr, _, h1, h2, h => ⟨fineW_D ht (by simpa using h1) (by simpa using h2), h⟩
  | so :: l, i, σ, tr, hn, h1, h2, h => by
    cases hw : ws.drop i with
    | nil => rw [hw] at h; exact h.elim
    | cons wk ws' =>
      cases hf : fs.drop i with
      | nil => rw [hw, hf] at h; exact h.elim
      | cons fb fs' =>
        rw [hw, hf] at h
        obtain ⟨e, h3, h4, h5, h6⟩ := h
        have ew : ws.getD i [] = wk := by
          have : (ws.drop i)[0]? = some wk := by rw [hw]; rfl
          rw [List.getElem?_drop] at this
          simp only [Nat.add_zero] at this
          simp [List.getD, this]
        have ef : fs.getD i [] = fb := by
          have : (fs.drop i)[0]? = some fb := by rw [hf]; rfl
          rw [List.getElem?_drop] at this
          simp only [Nat.add_zero] at this
          simp [List.getD, this]
        have dw : ws.drop (i + 1) = ws' := by rw [← List.drop_drop, hw]; rfl
        have df : fs.drop (i + 1) = fs' := by rw [← List.drop_drop, hf]; rfl
        refine ⟨e, h3, WDD_WD ht (by simp at hn; omega) (fun x hx => ?_) (fun x hx => ?_) (by rw [dw, df]; exact h6)⟩
        · rcases List.mem_cons.1 hx with rfl | hx
          · simp at hn ⊢; omega
          · exact h1 x hx
        · rcases List.mem_cons.1 hx with rfl | hx
          · exact ⟨by rw [ew]; exact h4, by rw [ef]; exact h5⟩
          · exact h2 x hx

theorem W_dregD {anc : List Nat} {l : List SO} {Q : SEx → St → Prop} (ws fs : List (List Nat)) (ht : okTab anc l.length ws fs = true) (h : WDD P base l ws fs σ (realC Q)) : W P base (.dreg anc l) σ Q :=
  WDD_WD ht (i := 0) (tr := []) (by simp) (by simp) (by simp) h

/-! ### its evaluation -/
def dD (P : Program) (base : Nat) (l : List SO) (ws fs : List (List Nat)) (K : St → Prop) (σ : St) : Prop := WDD P base l ws fs σ K
@[simp] theorem dD_ap (l : List SO) (ws fs : List (List Nat)) (K : St → Prop) : dD P base l ws fs K σ = WDD P base l ws fs σ K := rfl
@[simp] theorem WDD_nil (ws fs : List (List Nat)) (K : St → Prop) : WDD P base [] ws fs σ K = K σ := by cases ws <;> cases fs <;> rfl
@[simp] theorem WDD_cons (so : SO) (l : List SO) (wk fb : List Nat) (ws fs : List (List Nat)) (K : St → Prop) : WDD P base (so :: l) (wk :: ws) (fb :: fs) σ K = W1D P base wk fb so σ (dD P base l ws fs K) := rfl
@[congr] theorem WDD_congr {l : List SO} {ws fs : List (List Nat)} {σ σ' : St} {K : St → Prop} (h : σ = σ') : WDD P base l ws fs σ K = WDD P base l ws fs σ' K := by rw [h]
@[congr] theorem W1D_congr {wk fb : List Nat} {so : SO} {σ σ' : St} {K : St → Prop} (h2 : σ = σ') : W1D P base wk fb so σ K = W1D P base wk fb so σ' K := by rw [h2]

/-- One operation: what it comes to, its condition, its operands. -/
def WED (wk fb : List Nat) (own : Nat) (xs : List AV) (o : Option Eff) (c : Prop) (σ : St) (d : Option Nat) (K : St → Prop) : Prop :=
  ∃ e, o = some e ∧ c ∧ (∀ k, k ∈ wrote e → k ∈ wk) ∧ okLk fb (own :: (xs.flatMap (fun x => (un x).keys2) ++ e.rd ++ wrote e)) ∧ K (σ.ap d e)
@[congr] theorem WED_congr {wk fb : List Nat} {own : Nat} {xs xs' : List AV} {o o' : Option Eff} {c c' : Prop} {σ σ' : St} {d : Option Nat} {K : St → Prop} (h1 : xs = xs') (h2 : o = o') (h3 : c = c') (h4 : σ = σ') : WED wk fb own xs o c σ d K = WED wk fb own xs' o' c' σ' d K := by rw [h1, h2, h3, h4]
@[simp] theorem WED_pure (wk fb : List Nat) (own : Nat) (xs : List AV) (v : AV) (c : Prop) (d : Nat) (K : St → Prop) : WED wk fb own xs (some (Eff.pure v)) c σ (some d) K = (c ∧ okLk fb (own :: xs.flatMap (fun x => (un x).keys2)) ∧ K (σ.set d v)) := by simp [WED, wrote, Eff.pure]
@[simp] theorem WED_look (wk fb : List Nat) (own : Nat) (xs : List AV) (v : AV) (rd : List Nat) (c : Prop) (d : Nat) (K : St → Prop) : WED wk fb own xs (some (Eff.look v rd)) c σ (some d) K = (c ∧ okLk fb (own :: (xs.flatMap (fun x => (un x).keys2) ++ rd)) ∧ K (σ.set d v)) := by simp [WED, wrote, Eff.look]
@[simp] theorem WED_new (wk fb : List Nat) (own : Nat) (xs : List AV) (v : AV) (k : Nat) (o : Obj) (rd : List Nat) (c : Prop) (d : Nat) (K : St → Prop) : WED wk fb own xs (some ⟨v, [k], [(k, o)], rd⟩) c σ (some d) K = (c ∧ k ∈ wk ∧ okLk fb (own :: (xs.flatMap (fun x => (un x).keys2) ++ rd ++ [k, k])) ∧ K ((σ.new k o).set d v)) := by simp [WED, wrote]
@[simp] theorem WED_put (wk fb : List Nat) (own : Nat) (xs : List AV) (v : AV) (k : Nat) (o : Obj) (rd : List Nat) (c : Prop) (K : St → Prop) : WED wk fb own xs (some ⟨v, [], [(k, o)], rd⟩) c σ none K = (c ∧ k ∈ wk ∧ okLk fb (own :: (xs.flatMap (fun x => (un x).keys2) ++ rd ++ [k])) ∧ K (σ.puto k o)) := by simp [WED, wrote]
@[simp] theorem WED_app (wk fb : List Nat) (own : Nat) (xs : List AV) (v : AV) (k k' : Nat) (o : Obj) (rd : List Nat) (c : Prop) (d : Nat) (K : St → Prop) : WED wk fb own xs (some ⟨v, [k, k'], [(k, o)], rd⟩) c σ (some d) K = (c ∧ (k ∈ wk ∧ k' ∈ wk) ∧ okLk fb (own :: (xs.flatMap (fun x => (un x).keys2) ++ rd ++ [k, k', k])) ∧ K (if k = k' then (σ.new k o).set d v else ((σ.del k').new k o).set d v)) := by
  have e : (∀ x, (x = k ∨ x = k') ∨ x = k → x ∈ wk) ↔ (k ∈ wk ∧ k' ∈ wk) := ⟨fun h => ⟨h k (by simp), h k' (by simp)⟩, fun h x hx => by rcases hx with (rfl | rfl) | rfl <;> simp [h]⟩
  simp [WED, wrote, e]
@[simp] theorem WED_none (wk fb : List Nat) (own : Nat) (xs : List AV) (c : Prop) (d : Option Nat) (K : St → Prop) : WED wk fb own xs none c σ d K = False := by simp [WED]

/-- One operation under a guard. -/
def WGD (fb : List Nat) (own : Nat) (xs : List AV) (o : Option Eff) (c : Prop) (β : Bool) (σ : St) (d : Option Nat) (K : St → Prop) : Prop :=
  ∃ e, gW β o = some e ∧ gC c o ∧ e.pur = [] ∧ e.put = [] ∧ okLk fb (own :: (xs.flatMap (fun x => (un x).keys2) ++ e.rd)) ∧ K (σ.ap d ⟨.gd β e.val, [], [], e.rd⟩)
@[congr] theorem WGD_congr {fb : List Nat} {own : Nat} {xs xs' : List AV} {o o' : Option Eff} {c c' : Prop} {β β' : Bool} {σ σ' : St} {d : Option Nat} {K : St → Prop} (h1 : xs = xs') (h2 : o = o') (h3 : c = c') (h5 : β = β') (h4 : σ = σ') : WGD fb own xs o c β σ d K = WGD fb own xs' o' c' β' σ' d K := by rw [h1, h2, h3, h4, h5]
@[simp] theorem WGD_pure (fb : List Nat) (own : Nat) (xs : List AV) (v : AV) (c : Prop) (β : Bool) (d : Nat) (K : St → Prop) : WGD fb own xs (some (Eff.pure v)) c β σ (some d) K = (c ∧ okLk fb (own :: xs.flatMap (fun x => (un x).keys2)) ∧ K (σ.set d (.gd β v))) := by simp [WGD, Eff.pure]
@[simp] theorem WGD_skip (fb : List Nat) (own : Nat) (xs : List AV) (c : Prop) (d : Nat) (K : St → Prop) : WGD fb own xs none c false σ (some d) K = (okLk fb (own :: xs.flatMap (fun x => (un x).keys2)) ∧ K (σ.set d (.gd false (.c (.v (.bool false)))))) := by simp [WGD, gW, gC, gdD0, Eff.pure]
@[simp] theorem WGD_look (fb : List Nat) (own : Nat) (xs : List AV) (v : AV) (rd : List Nat) (c : Prop) (β : Bool) (d : Nat) (K : St → Prop) : WGD fb own xs (some (Eff.look v rd)) c β σ (some d) K = (c ∧ okLk fb (own :: (xs.flatMap (fun x => (un x).keys2) ++ rd)) ∧ K (σ.set d (.gd β v))) := by simp [WGD, Eff.look]

/-- A call. -/
def CallD (P : Program) (wk fb : List Nat) (own : Nat) (σ : St) (fv : AV) (xs : List AV) (d : Option Nat) (K : St → Prop) : Prop :=
  ∃ fn k1 k2 ins outs res pur ps, CallSem P σ true fv xs fn k1 k2 ins outs res pur ∧ PutOf ins outs pur ps ∧ (∀ k, k ∈ pur ++ ps.map (·.1) → k ∈ wk) ∧ okLk fb (own :: ((fv :: xs).flatMap (fun x => (un x).keys2) ++ ins.map (·.1) ++ (pur ++ ps.map (·.1)))) ∧ K (σ.ap d ⟨res, pur, ps, ins.map (·.1)⟩)
def GCallD (P : Program) (fb : List Nat) (own : Nat) (σ : St) (β : Bool) (fv : AV) (xs : List AV) (d : Option Nat) (K : St → Prop) : Prop :=
  ∃ fn k1 k2 ins outs res, CallSem P σ β fv xs fn k1 k2 ins outs res [] ∧ PutOf ins outs [] [] ∧ okLk fb (own :: ((fv :: xs).flatMap (fun x => (un x).keys2) ++ ins.map (·.1))) ∧ K (σ.ap d ⟨.gd β res, [], [], ins.map (·.1)⟩)
@[congr] theorem CallD_congr {wk fb : List Nat} {own : Nat} {σ σ' : St} {fv fv' : AV} {xs xs' : List AV} {d : Option Nat} {K : St → Prop} (h : σ = σ') (h1 : fv = fv') (h2 : xs = xs') : CallD P wk fb own σ fv xs d K = CallD P wk fb own σ' fv' xs' d K := by rw [h, h1, h2]
@[congr] theorem GCallD_congr {fb : List Nat} {own : Nat} {σ σ' : St} {β β' : Bool} {fv fv' : AV} {xs xs' : List AV} {d : Option Nat} {K : St → Prop} (h : σ = σ') (h0 : β = β') (h1 : fv = fv') (h2 : xs = xs') : GCallD P fb own σ β fv xs d K = GCallD P fb own σ' β' fv' xs' d K := by rw [h, h0, h1, h2]
theorem CallD.fn {wk fb : List Nat} {own d fn : Nat} {xs args : List AV} {res : AV} {K : St → Prop} (hs : Fn P fn args res) (ha : xs.map (fun x => toD2 σ (un x)) = args)
    (h2 : ∀ x, x ∈ xs → gok true x) (h4 : res.keys2 = []) (h5 : okLk fb (own :: xs.flatMap (fun x => (un x).keys2))) (hK : K (σ.set d res)) : CallD P wk fb own σ (.c (.clo fn [] [])) xs (some d) K := by
  subst ha
  refine ⟨fn, [], [], [], [], res, [], [], call_sem rfl trivial h2 (fun _ => hs) h4, .inl rfl, by simp, ?_, hK⟩
  intro k hk
  have := h5 k hk
  simpa [objsOf, AV.keys2, AV.keys1, Cell.keys] using this
theorem GCallD.fn {fb : List Nat} {own d fn : Nat} {β : Bool} {xs args : List AV} {res : AV} {K : St → Prop} (hs : β = true → Fn P fn args res) (ha : xs.map (fun x => toD2 σ (un x)) = args)
    (h2 : ∀ x, x ∈ xs → gok β x) (h4 : res.keys2 = []) (h5 : okLk fb (own :: xs.flatMap (fun x => (un x).keys2))) (hK : K (σ.set d (.gd β res))) : GCallD P fb own σ β (.c (.clo fn [] [])) xs (some d) K := by
  subst ha
  refine ⟨fn, [], [], [], [], res, call_sem rfl trivial h2 hs h4, .inl rfl, ?_, hK⟩
  intro k hk
  have := h5 k hk
  simpa [AV.keys2, AV.keys1, Cell.keys] using this

def WD1 (P : Program) (base : Nat) (wk fb : List Nat) (so : SO) (σ : St) (K : St → Prop) : Prop := W1D P base wk fb so σ K
@[congr] theorem WD1_congr {wk fb : List Nat} {so : SO} {σ σ' : St} {K : St → Prop} (h2 : σ = σ') : WD1 P base wk fb so σ K = WD1 P base wk fb so σ' K := by rw [h2]
theorem opKeys_eq (op : SOp) : opKeys σ op = (op.args.map σ.ev).flatMap (fun x => (un x).keys2) := by simp [opKeys, List.flatMap_map]
theorem W1D_plain {wk fb : List Nat} {d : Option Nat} {op : SOp} {K : St → Prop} (h : op.isCall = false) : W1D P base wk fb ⟨d, none, op⟩ σ K = WED wk fb (base + d.getD 0) (op.args.map σ.ev) (ev1 (base + d.getD 0) σ.ev σ op) (cond true σ.ev σ op) σ d K := by
  apply propext
  cases op <;> first
    | (simp [SOp.isCall] at h; done)
    | skip
  all_goals
    simp only [W1D, SemO, gdOf, mkGd, WED, lkOf, opKeys_eq, evG_none, condG_none]
    constructor
    · rintro ⟨e, ⟨β, hβ, e0, h1, h2, h3, rfl⟩, h4, h5, h6⟩
      cases hβ
      exact ⟨_, h1, h2, h4, h5, h6⟩
    · rintro ⟨e, h1, h2, h3, h4, h5⟩
      exact ⟨e, ⟨true, rfl, e, h1, h2, fun h => absurd rfl h, rfl⟩, h3, h4, h5⟩
def gdD (base : Nat) (fb : List Nat) (op : SOp) (σ : St) (d : Option Nat) (K : St → Prop) (β : Bool) : Prop := WGD fb (base + d.getD 0) (op.args.map σ.ev) (ev1 (base + d.getD 0) σ.ev σ op) (cond β σ.ev σ op) β σ d K
@[simp] theorem gdD_ap (fb : List Nat) (op : SOp) (d : Option Nat) (K : St → Prop) (β : Bool) : gdD base fb op σ d K β = WGD fb (base + d.getD 0) (op.args.map σ.ev) (ev1 (base + d.getD 0) σ.ev σ op) (cond β σ.ev σ op) β σ d K := rfl
theorem W1D_gd {wk fb : List Nat} {d : Option Nat} {s : Nat} {want : Bool} {op : SOp} {K : St → Prop} (h : op.isCall = false) : W1D P base wk fb ⟨d, some (s, want), op⟩ σ K = gbK (gb (σ.sl s) want) (gdD base fb op σ d K) := by
  apply propext
  cases op <;> first
    | (simp [SOp.isCall] at h; done)
    | skip
  all_goals
    simp only [W1D, SemO, gdOf, mkGd, gbK, gdD, WGD, lkOf, opKeys_eq, evG_gW, condG_gC]
    constructor
    · rintro ⟨e, ⟨β, hβ, e0, h1, h2, h3, rfl⟩, h4, h5, h6⟩
      obtain ⟨q1, q2⟩ := h3 (by simp)
      simp only [wrote, q1, q2, List.map_nil, List.append_nil] at h5
      rw [q1, q2] at h6
      exact ⟨β, hβ, e0, h1, h2, q1, q2, h5, h6⟩
    · rintro ⟨β, hβ, e, h1, h2, q1, q2, h3, h4⟩
      refine ⟨⟨.gd β e.val, [], [], e.rd⟩, ⟨β, hβ, e, h1, h2, fun _ => ⟨q1, q2⟩, ?_⟩, by simp [wrote], by simpa [wrote] using h3, h4⟩
      rw [q1, q2]
@[simp] theorem W1D_none {wk fb : List Nat} {d : Option Nat} {op : SOp} {K : St → Prop} : W1D P base wk fb ⟨d, none, op⟩ σ K = if op.isCall = true then WD1 P base wk fb ⟨d, none, op⟩ σ K else WED wk fb (base + d.getD 0) (op.args.map σ.ev) (ev1 (base + d.getD 0) σ.ev σ op) (cond true σ.ev σ op) σ d K := by
  by_cases h : op.isCall = true
  · rw [if_pos h]; rfl
  · rw [if_neg h]; exact W1D_plain (by simpa using h)
@[simp] theorem W1D_some {wk fb : List Nat} {d : Option Nat} {s : Nat} {want : Bool} {op : SOp} {K : St → Prop} : W1D P base wk fb ⟨d, some (s, want), op⟩ σ K = if op.isCall = true then WD1 P base wk fb ⟨d, some (s, want), op⟩ σ K else gbK (gb (σ.sl s) want) (gdD base fb op σ d K) := by
  by_cases h : op.isCall = true
  · rw [if_pos h]; rfl
  · rw [if_neg h]; exact W1D_gd (by simpa using h)
theorem opKeys_call (f : SArg) (xs : List SArg) : opKeys σ (.call f xs) = (σ.ev f :: xs.map σ.ev).flatMap (fun x => (un x).keys2) := by rw [opKeys_eq]; rfl
@[simp] theorem WD1_eq {wk fb : List Nat} {d : Option Nat} {f : SArg} {xs : List SArg} {K : St → Prop} : WD1 P base wk fb ⟨d, none, .call f xs⟩ σ K = CallD P wk fb (base + d.getD 0) σ (σ.ev f) (xs.map σ.ev) d K := by
  apply propext
  simp only [WD1, W1D, SemO, gdOf, mkGd, CallD, lkOf, opKeys_call, wrote]
  constructor
  · rintro ⟨e, ⟨β, hβ, fn, k1, k2, ins, outs, res, pur, ps, h1, hp, _, rfl⟩, h2, h3, h4⟩
    cases hβ
    exact ⟨fn, k1, k2, ins, outs, res, pur, ps, h1, hp, h2, h3, h4⟩
  · rintro ⟨fn, k1, k2, ins, outs, res, pur, ps, h1, hp, h2, h3, h4⟩
    exact ⟨_, ⟨true, rfl, fn, k1, k2, ins, outs, res, pur, ps, h1, hp, fun h => absurd rfl h, rfl⟩, h2, h3, h4⟩
def gcD (P : Program) (fb : List Nat) (own : Nat) (σ : St) (fv : AV) (xs : List AV) (d : Option Nat) (K : St → Prop) (β : Bool) : Prop := GCallD P fb own σ β fv xs d K
@[simp] theorem gcD_ap (fb : List Nat) (own : Nat) (fv : AV) (xs : List AV) (d : Option Nat) (K : St → Prop) (β : Bool) : gcD P fb own σ fv xs d K β = GCallD P fb own σ β fv xs d K := rfl
@[simp] theorem WD1G_eq {wk fb : List Nat} {d : Option Nat} {s : Nat} {want : Bool} {f : SArg} {xs : List SArg} {K : St → Prop} : WD1 P base wk fb ⟨d, some (s, want), .call f xs⟩ σ K = gbK (gb (σ.sl s) want) (gcD P fb (base + d.getD 0) σ (σ.ev f) (xs.map σ.ev) d K) := by
  apply propext
  simp only [WD1, W1D, SemO, gdOf, mkGd, gbK, gcD, GCallD, lkOf, opKeys_call, wrote]
  constructor
  · rintro ⟨e, ⟨β, hβ, fn, k1, k2, ins, outs, res, pur, ps, h1, hp, hg, rfl⟩, h2, h3, h4⟩
    obtain ⟨rfl, rfl⟩ := hg (by simp)
    exact ⟨β, hβ, fn, k1, k2, ins, outs, res, h1, hp, by simpa using h3, h4⟩
  · rintro ⟨β, hβ, fn, k1, k2, ins, outs, res, h1, hp, h3, h4⟩
    exact ⟨_, ⟨β, hβ, fn, k1, k2, ins, outs, res, [], [], h1, hp, fun _ => ⟨rfl, rfl⟩, rfl⟩, by simp, by simpa using h3, h4⟩
attribute [simp] SOp.args
end Go.Abs

namespace Go.Abs

variable {P : Program} {I : Init} {n base : Nat} {σ σ' : St} {g g' : Gh} {a : Act} {w w' : World} {e : Eff}

/-! ### functions that hand back a row of their own -/
def Cell.sub (k t : Nat) : Cell → Cell
  | .own _ _ => .own k t
  | c => c
def AV.sub1 (k t : Nat) : AV → AV
  | .c x => .c (x.sub k t)
  | .agg cs => .agg (cs.map (Cell.sub k t))
  | x => x
def AV.sub (k t : Nat) : AV → AV
  | .tup l => .tup (l.map (AV.sub1 k t))
  | x => x.sub1 k t
def Cell.pat : Cell → Bool
  | .ref .. => false
  | .elw .. => false
  | .mp .. => false
  | .itr .. => false
  | .clo _ a b => a.isEmpty && b.isEmpty
  | _ => true
def AV.pat1 : AV → Bool
  | .c x => x.pat
  | .agg cs => cs.all Cell.pat
  | _ => true
def AV.pat : AV → Bool
  | .tup l => l.all AV.pat1
  | x => x.pat1

/-- Called with these, it hands back what is told, in which the row that it has made is named as the caller likes. -/
def SpecNew (P : Program) (f : Nat) (args : List AV) (pat : AV) (q : Obj) : Prop := ∀ k t : Nat, Spec P f args [] (pat.sub k t) [(k, t, q)]

def rrEvN (σ : St) : RR → Option AV
  | .t s => some (un (σ.sl s))
  | .c1 a => match loadAt σ true 0 (un (σ.sl a)) with
    | some e => some e.val
    | none => none
  | .cn a m => match loadAt σ false m (un (σ.sl a)) with
    | some e => some e.val
    | none => none
def resLN (σ : St) : List RR → Option (List AV)
  | [] => some []
  | r :: l => match rrEvN σ r, resLN σ l with
    | some x, some y => if isV1 x then some (x :: y) else none
    | _, _ => none
def resN (σ : St) (l : List RR) : Option AV := match resLN σ l with
  | some [x] => some x
  | some xs => some (.tup xs)
  | none => none

theorem rr_soundN (hR : Rel I n σ g a w) {r : ResultVar} {r' : RR} {l : List ResultVar} {l' : List RR} (hok : okR P (r :: l) (r' :: l') = true) (hg : rrGok σ r') {x : AV} (hx : rrEvN σ r' = some x) :
    okR P l l' = true ∧ ∃ v, (resM a.tmps r).run P w = .ok v w ∧ RV2 g w x v := by
  unfold okR at hok
  split at hok
  · rename_i e; cases e
  · rename_i e1 e2
    cases e1; cases e2
    simp only [Bool.and_eq_true, decide_eq_true_eq] at hok
    obtain ⟨rfl, h2⟩ := hok
    cases hx
    exact ⟨h2, _, rfl, RV_un (hR.slots _) hg⟩
  · rename_i e1 e2
    cases e1; cases e2
    simp only [Bool.and_eq_true, decide_eq_true_eq] at hok
    obtain ⟨⟨rfl, h1⟩, h2⟩ := hok
    simp only [rrEvN] at hx
    split at hx
    · rename_i e el
      cases hx
      have hv := RV_un (hR.slots _) hg
      obtain ⟨_, _, v, h3, h4⟩ := loadAt_spec hR hv el h1 (by simp)
      exact ⟨h2, v, loadVar_at h3 (ptr_of hR hv el), h4⟩
    · cases hx
  · rename_i e1 e2
    cases e1; cases e2
    simp only [Bool.and_eq_true, decide_eq_true_eq] at hok
    obtain ⟨⟨⟨rfl, h1⟩, h3⟩, h2⟩ := hok
    simp only [rrEvN] at hx
    split at hx
    · rename_i e el
      cases hx
      have hv := RV_un (hR.slots _) hg
      obtain ⟨_, _, v, h3, h4⟩ := loadAt_spec hR hv el h1 (by intro _; exact h3)
      exact ⟨h2, v, loadVar_at h3 (ptr_of hR hv el), h4⟩
    · cases hx
  · cases hok

theorem resLN_sound (hR : Rel I n σ g a w) : ∀ {l : List ResultVar} {l' : List RR}, okR P l l' = true → (∀ r, r ∈ l' → rrGok σ r) → ∀ {xs}, resLN σ l' = some xs →
    ∃ vs, (l.mapM (resM a.tmps)).run P w = .ok vs w ∧ All2 (RV1 g w) xs vs
  | [], [], _, _, xs, h => by cases h; exact ⟨[], rfl, trivial⟩
  | r :: l, r' :: l', hok, hg, xs, h => by
    simp only [resLN] at h
    split at h
    · rename_i x y ex ey
      split at h
      · rename_i hv1
        cases h
        obtain ⟨hok', v, h1, h2⟩ := rr_soundN hR hok (hg r' (by simp)) ex
        obtain ⟨vs, h3, h4⟩ := resLN_sound hR hok' (fun q hq => hg q (by simp [hq])) ey
        refine ⟨v :: vs, by simp [h1, h3], ?_, h4⟩
        cases x <;> simp [isV1] at hv1
        · exact h2
        · exact h2
      · cases h
    · cases h
  | [], _ :: _, h, _, _, _ => by simp [okR] at h
  | _ :: _, [], h, _, _, _ => by simp [okR] at h

theorem res_soundN {fn : Func} {rs : List RR} {res : AV} (hR : Rel I n σ g a w) (hok : okR P fn.results.toList rs = true) (hg : ∀ r, r ∈ rs → rrGok σ r) (hr : resN σ rs = some res) :
    ∃ v, (results fn a.tmps).run P w = .ok v w ∧ RV2 g w res v := by
  unfold resN at hr
  cases hL : resLN σ rs with
  | none => rw [hL] at hr; cases hr
  | some xs =>
    rw [hL] at hr
    obtain ⟨us, h1, h2⟩ := resLN_sound hR hok hg hL
    have hrun : (fn.results.mapM (resM a.tmps)).run P w = .ok us.toArray w := by
      rw [← Array.toArray_toList (xs := fn.results), List.mapM_toArray]
      simp [h1]
    obtain ⟨v, hv1, hv2⟩ := one_res hr h2
    refine ⟨v, ?_, hv2⟩
    have : results fn a.tmps = (do
        let vs ← fn.results.mapM (resM a.tmps)
        pure (if h : vs.size = 1 then vs[0] else .tuple vs)) := by
      unfold results
      congr 1
    rw [this]
    simp only [Sem.run_bind, hrun]
    rw [← hv1]; rfl

/-! ### a slice of just its length becomes a row of one's own -/
inductive Ado : St → St → Prop where
  | refl (σ : St) : Ado σ σ
  | step {σ σ' : St} (s key ty sz bs : Nat) (es : List (List Cell)) (h : σ.sl s = .c (.cap sz bs es)) (k : Ado ((σ.new key (.row ty sz bs es)).set s (.c (.own key (σ.tg key + 1)))) σ') : Ado σ σ'

theorem adopt_sound {s key ty sz bs : Nat} {es : List (List Cell)} (hR : Rel I n σ g a w) (hs : σ.sl s = .c (.cap sz bs es)) :
    ∃ g', Rel I n ((σ.new key (.row ty sz bs es)).set s (.c (.own key (σ.tg key + 1)))) g' a w := by
  have hv := hR.slots s
  rw [hs] at hv
  have hv : RC g w (.cap sz bs es) (a.tmps.getD s undef) := hv (by simp)
  obtain ⟨hrd, ad, hy⟩ := hv
  let g' : Gh := ⟨g.st, g.blk, fun k => if k = key then a.tmps.getD s undef else g.rv k, fun k => if k = key then g.tg k + 1 else g.tg k⟩
  have hkp : Kp g w g' w := ⟨fun ad hs => ⟨hs, rfl⟩⟩
  have hle : g.Le g' := ⟨fun k => by
    by_cases hk : k = key
    · left; simp [g', hk]
    · right; simp [g', hk]⟩
  have hna : ¬ Active g' key (.row ty sz bs es) := by
    rintro ⟨a', n', c', h1, h2⟩
    simp only [g', if_true] at h1
    rw [hy] at h1
    cases h1; omega
  have hact : ∀ k q, k ≠ key → (Active g' k q ↔ Active g k q) := fun k q hk => by
    cases q with
    | row => simp only [Active, g', if_neg hk]
    | _ => exact Iff.rfl
  have one : ∀ k q, ((σ.new key (.row ty sz bs es)).set s (.c (.own key (σ.tg key + 1)))).ob k = some q → (k = key ∧ q = .row ty sz bs es) ∨ (k ≠ key ∧ σ.ob k = some q) := fun k q h => by
    simp only [set_ob, new_ob] at h
    by_cases hk : k = key
    · rw [if_pos hk] at h; cases h; exact .inl ⟨hk, rfl⟩
    · rw [if_neg hk] at h; exact .inr ⟨hk, h⟩
  refine ⟨g',
    { size := hR.size, tags := fun k => ?_, slots := fun s' => ?_, defs := hR.defs, obs := fun k q hq => ?_, sep := fun k1 k2 q1 q2 e1 e2 a1 a2 hb => ?_, wok := hR.wok, os := hR.os, tape := hR.tape, out := hR.out,
      grow := hR.grow, frame := hR.frame, kp := hR.kp.trans hkp, le := hR.le.trans hle, loc := fun k q hq ha => ?_ }⟩
  · simp only [set_tg, new_tg, g']
    by_cases hk : k = key
    · subst hk; simp [hR.tags]
    · simp [hk, hR.tags]
  · simp only [set_sl, new_sl]
    by_cases h : s' = s
    · rw [if_pos h, h]
      intro _
      refine ⟨by rw [hy]; rfl, by simp [g', hR.tags], fun _ => ⟨by simp [g'], ad, _, _, hy⟩⟩
    · rw [if_neg h]; exact (hR.slots s').mono hkp hle
  · rcases one k q hq with ⟨rfl, rfl⟩ | ⟨hk, hq⟩
    · refine ⟨by simp only [g', if_true]; exact hrd.mono hkp, fun a' n' c' h1 h2 => ?_⟩
      exact absurd ⟨a', n', c', h1, h2⟩ hna
    · exact ObOK.mono hkp hle (by simp [g', hk]) (fun _ => ⟨rfl, fun _ h => h⟩) (hR.obs k q hq)
  · rcases one k1 q1 e1 with ⟨rfl, rfl⟩ | ⟨hk1, e1⟩
    · exact absurd a1 hna
    · rcases one k2 q2 e2 with ⟨rfl, rfl⟩ | ⟨hk2, e2⟩
      · exact absurd a2 hna
      · exact hR.sep k1 k2 q1 q2 e1 e2 ((hact k1 q1 hk1).1 a1) ((hact k2 q2 hk2).1 a2) hb
  · rcases one k q hq with ⟨rfl, rfl⟩ | ⟨hk, hq⟩
    · exact absurd ha hna
    · exact hR.loc k q hq ((hact k q hk).1 ha)

theorem ado_sound : ∀ {σ σ' : St}, Ado σ σ' → ∀ {g : Gh}, Rel I n σ g a w → ∃ g', Rel I n σ' g' a w := by
  intro σ σ' h
  induction h with
  | refl σ => exact fun hR => ⟨_, hR⟩
  | step s key ty sz bs es h _ ih =>
    intro g hR
    obtain ⟨g', hR'⟩ := adopt_sound (key := key) (ty := ty) hR h
    exact ih hR'

/-! ### a name of the caller's -/
theorem RC.sub {g g2 : Gh} {w : World} {k0 k t : Nat} {c : Cell} {y : Value} (hc : c.pat = true) (hs : g2.st = g.st) (ht : g2.tg k = t) (hr : g2.rv k = g.rv k0) (h : RC g w (c.sub k0 (g.tg k0)) y) : RC g2 w (c.sub k t) y := by
  have hk : Kp g w g2 w := ⟨fun ad h => ⟨by rw [hs]; exact h, rfl⟩⟩
  cases c with
  | own k' t' =>
    obtain ⟨h0, h1, h2⟩ := h
    exact ⟨h0, by rw [ht]; exact Nat.le_refl _, fun _ => by rw [hr]; exact h2 rfl⟩
  | ref => cases hc
  | elw => cases hc
  | mp => cases hc
  | itr => cases hc
  | bk => exact RC.on h hk (by simp [Cell.sub, Cell.keys])
  | clo f a b =>
    simp only [Cell.pat, Bool.and_eq_true, List.isEmpty_iff] at hc
    obtain ⟨rfl, rfl⟩ := hc
    exact RC.on h hk (by simp [Cell.sub, Cell.keys])
  | v x => exact RC.on h hk (by simp [Cell.sub, Cell.keys])
  | sl => exact RC.on h hk (by simp [Cell.sub, Cell.keys])
  | cap => exact RC.on h hk (by simp [Cell.sub, Cell.keys])
  | elp => exact RC.on h hk (by simp [Cell.sub, Cell.keys])
  | junk => exact h
theorem All2.subs {g g2 : Gh} {w : World} {k0 k t : Nat} (hs : g2.st = g.st) (ht : g2.tg k = t) (hr : g2.rv k = g.rv k0) : ∀ {cs : List Cell} {ys : List Value}, cs.all Cell.pat = true → All2 (RC g w) (cs.map (Cell.sub k0 (g.tg k0))) ys → All2 (RC g2 w) (cs.map (Cell.sub k t)) ys
  | [], [], _, _ => trivial
  | c :: cs, y :: ys, hp, h => by
    simp only [List.all_cons, Bool.and_eq_true] at hp
    exact ⟨RC.sub hp.1 hs ht hr h.1, All2.subs hs ht hr hp.2 h.2⟩
  | [], _ :: _, _, h => h.elim
  | _ :: _, [], _, h => h.elim
theorem RV1.sub {g g2 : Gh} {w : World} {k0 k t : Nat} {x : AV} {y : Value} (hx : x.pat1 = true) (hs : g2.st = g.st) (ht : g2.tg k = t) (hr : g2.rv k = g.rv k0) (h : RV1 g w (x.sub1 k0 (g.tg k0)) y) : RV1 g2 w (x.sub1 k t) y := by
  cases x with
  | c x =>
    intro hj
    refine RC.sub hx hs ht hr (h ?_)
    cases x <;> simp_all [Cell.sub]
  | agg cs =>
    obtain ⟨vs, e, hh⟩ := h
    exact ⟨vs, e, All2.subs hs ht hr hx hh⟩
  | tup l => exact h.elim
  | gd b x => exact h.elim
theorem RV2.sub {g g2 : Gh} {w : World} {k0 k t : Nat} {x : AV} {y : Value} (hx : x.pat = true) (hs : g2.st = g.st) (ht : g2.tg k = t) (hr : g2.rv k = g.rv k0) (h : RV2 g w (x.sub k0 (g.tg k0)) y) : RV2 g2 w (x.sub k t) y := by
  cases x with
  | c x => exact RV1.sub (x := .c x) hx hs ht hr h
  | agg cs => exact RV1.sub (x := .agg cs) hx hs ht hr h
  | gd b x => exact h.elim
  | tup l =>
    obtain ⟨vs, e, hh⟩ := h
    refine ⟨vs, e, ?_⟩
    simp only [AV.pat] at hx
    have key : ∀ {l : List AV} {ys : List Value}, l.all AV.pat1 = true → All2 (RV1 g w) (l.map (AV.sub1 k0 (g.tg k0))) ys → All2 (RV1 g2 w) (l.map (AV.sub1 k t)) ys := by
      intro l
      induction l with
      | nil => intro ys _ h; cases ys; trivial; exact h.elim
      | cons x l ih =>
        intro ys hp h
        simp only [List.all_cons, Bool.and_eq_true] at hp
        cases ys with
        | nil => exact h.elim
        | cons y ys => exact ⟨RV1.sub hp.1 hs ht hr h.1, ih hp.2 h.2⟩
    exact key hx hh
theorem ObOK.at {g g2 : Gh} {w : World} {k0 k : Nat} {q : Obj} (hq : q.keys = []) (hs : g2.st = g.st) (hb : g2.blk k = g.blk k0) (hr : g2.rv k = g.rv k0) (h : ObOK g w k0 q) : ObOK g2 w k q := by
  have hk : Kp g w g2 w := ⟨fun ad h => ⟨by rw [hs]; exact h, rfl⟩⟩
  cases q with
  | box ty cs =>
    obtain ⟨vs, e, hh, hz⟩ := h
    refine ⟨vs, by rw [hb]; exact e, hh.imp fun c hc y r => RC.on r hk fun k' hk' => ?_, by rw [hb, hs]; exact hz⟩
    have : k' ∈ keysCs cs := List.mem_flatMap.2 ⟨c, hc, hk'⟩
    simp only [Obj.keys] at hq
    rw [hq] at this; cases this
  | row ty sz bs es =>
    refine ⟨by rw [hr]; exact h.1.mono hk, fun a n c h1 h2 => ?_⟩
    rw [hr] at h1
    obtain ⟨e1, e2, e3⟩ := h.2 a n c h1 h2
    exact ⟨by rw [hb]; exact e1, by rw [hb]; exact e2, by rw [hb, hs]; exact e3⟩
  | mrow ty sz bs es =>
    obtain ⟨arr, c, h1, h2, h3, h4, h5, h6, h7, h8⟩ := h
    refine ⟨arr, c, by rw [hb, hr]; exact h1, h2, by rw [hb]; exact h3, h4, h5, h6, fun i j l d e1 e2 => ?_, by rw [hb, hs]; exact h8⟩
    obtain ⟨x, e, hx⟩ := h7 i j l d e1 e2
    exact ⟨x, e, hx.mono hk⟩
  | mob one es =>
    obtain ⟨arr, c, h1, h2, h3, h4, h5, h6⟩ := h
    exact ⟨arr, c, by rw [hb]; exact h1, h2, h3, h4.imp fun p hp x hx => ⟨hx.1, MV.mono hk hx.2⟩, h5, by rw [hb, hs]; exact h6⟩

structure EndN (rs : List RR) (k0 : Nat) (pat : AV) (q : Obj) (σ : St) : Prop where
  gk : ∀ r, r ∈ rs → rrGok σ r
  res : resN σ rs = some (pat.sub k0 (σ.tg k0))
  ob : σ.ob k0 = some q
def onEndN (rs : List RR) (k0 : Nat) (pat : AV) (q : Obj) : SEx → St → Prop
  | .exit _, _ => False
  | _, σ => ∃ σ', Ado σ σ' ∧ EndN rs k0 pat q σ'
@[simp] theorem onEndN_n {rs : List RR} {k0 : Nat} {pat : AV} {q : Obj} : onEndN rs k0 pat q .normal σ = ∃ σ', Ado σ σ' ∧ EndN rs k0 pat q σ' := rfl
@[simp] theorem onEndN_r {rs : List RR} {k0 : Nat} {pat : AV} {q : Obj} : onEndN rs k0 pat q .ret σ = ∃ σ', Ado σ σ' ∧ EndN rs k0 pat q σ' := rfl

theorem new_of {f m : Nat} {args : List AV} {pat : AV} {q : Obj} {sc : SCode} {rs : List RR} (k0 : Nat) (hok : okFn P f n sc rs m = true) (hm : args.length = m) (hp : pat.pat = true) (hq : q.keys = [])
    (hW : ∀ σ : St, (∀ s, σ.sl s = slotsOf args s) → (∀ x, x ∈ args → Real x) → W P base sc σ (onEndN rs k0 pat q)) : SpecNew P f args pat q := by
  intro kk tt
  unfold okFn at hok
  split at hok
  case h_2 => cases hok
  rename_i fn hf
  split at hok
  case h_2 => cases hok
  rename_i c hb
  simp only [Bool.and_eq_true, decide_eq_true_eq, Bool.not_eq_true'] at hok
  obtain ⟨⟨⟨⟨hn, hmn⟩, hcode⟩, hres⟩, hname⟩ := hok
  refine ⟨fun args w => ?_, fun g w vs hwok hargs hins => ?_⟩
  · have hname : ¬ fn.name = "runtime.NumGoroutine" := by simpa using hname
    simp [callFunc, hf, hname, hb]
  · refine calls_of_wp hf hb ?_
    let J : Init := ⟨g, w, mineOf g [], []⟩
    have hno : ∀ b, ¬ mineOf g [] b := by rintro b ⟨k, t, q, h, _⟩; simp at h
    have hlen : vs.size = m := by rw [← hm]; simpa using hargs.length.symm
    let a0 : Act := { tmps := vs ++ Array.replicate (fn.ntmps - vs.size) undef, defers := [] }
    have hR0 : Rel J n ⟨slotsOf args, fun _ => none, g.tg⟩ g a0 w :=
      { size := by simp only [a0, Array.size_append, Array.size_replicate]; omega
        tags := fun _ => rfl
        slots := fun s => by
          simp only [slotsOf]
          by_cases hs : s < args.length
          · have hget : args[s]? = some args[s] := List.getElem?_eq_getElem hs
            obtain ⟨v, hv, hrv⟩ := hargs.get s _ hget
            have e1 : args.getD s (.c .junk) = args[s] := by simp [hs]
            have e2 : a0.tmps.getD s undef = v := by
              have hsv : s < vs.size := by omega
              have hv' : vs[s]? = some v := by simpa using hv
              simp only [a0, Array.getD_eq_getD_getElem?]
              rw [Array.getElem?_append_left hsv, hv']; rfl
            rw [e1, e2]
            exact RV_of2 hrv
          · have e1 : args.getD s (.c .junk) = .c .junk := by simp [hs]
            rw [e1]
            exact fun h => absurd rfl h
        defs := rfl
        obs := fun k q h => by cases h
        sep := fun k k' q q' h => by cases h
        wok := hwok, os := rfl, tape := rfl, out := rfl, grow := Nat.le_refl _
        frame := fun _ _ _ => ⟨rfl, fun _ => Iff.rfl⟩
        kp := Kp.refl g w, le := Gh.Le.refl g
        loc := fun k q h ha => by cases h }
    have hdone : ∀ σ1 g1 a w', (∃ σ', Ado σ1 σ' ∧ EndN rs k0 pat q σ') → Rel J n σ1 g1 a w' → a.defers = [] ∧ ∃ v, (results fn a.tmps).run P w' = .ok v w' ∧ ∃ v' g'', Ending.returned v = .returned v' ∧ Post g w [] g'' w' (pat.sub kk tt) v' [(kk, tt, q)] := by
      rintro σ1 g1 a w' ⟨σ', hA, hE⟩ hR1
      obtain ⟨g', hR'⟩ := ado_sound hA hR1
      obtain ⟨hgk, hr, ho⟩ := hE
      refine ⟨hR'.defs, ?_⟩
      obtain ⟨v, hrun, hv⟩ := res_soundN hR' hres hgk hr
      rw [← hR'.tags] at hv
      let g2 : Gh := ⟨g'.st, fun k => if k = kk then g'.blk k0 else g'.blk k, fun k => if k = kk then g'.rv k0 else g'.rv k, fun k => if k = kk then tt else g'.tg k⟩
      have h1 : g2.tg kk = tt := by simp [g2]
      have h2 : g2.rv kk = g'.rv k0 := by simp [g2]
      have h3 : g2.blk kk = g'.blk k0 := by simp [g2]
      have hact : Active g2 kk q → Active g' k0 q := by
        cases q with
        | row => intro h; simpa only [Active, h2] using h
        | _ => exact fun h => h
      have lk : ∀ k t q', List.lookup k [(kk, tt, q)] = some (t, q') → k = kk ∧ t = tt ∧ q' = q := fun k t q' h => by
        simp only [List.lookup_cons, List.lookup_nil] at h
        split at h
        · rename_i hk; cases h; exact ⟨by simpa using hk, rfl, rfl⟩
        · cases h
      refine ⟨v, hrun, v, g2, rfl,
        { res := RV2.sub (g := g') (g2 := g2) (k0 := k0) hp rfl h1 h2 hv
          obs := ⟨fun k t q' h => ?_, fun k k' t t' q' q'' h h' _ _ _ => ?_⟩
          kp := hR'.kp.trans ⟨fun ad h => ⟨h, rfl⟩⟩, wok := hR'.wok, os := hR'.os, tape := hR'.tape, out := hR'.out, grow := hR'.grow, frame := hR'.frame
          loc := fun k t q' h ha => ?_
          box := fun k t _ ⟨q', h⟩ => by simp at h }⟩
      · obtain ⟨rfl, rfl, rfl⟩ := lk k t q' h
        exact ⟨h1, ObOK.at (g := g') (g2 := g2) (k0 := k0) hq rfl h3 h2 (hR'.obs k0 _ ho)⟩
      · obtain ⟨rfl, _⟩ := lk _ _ _ h
        exact (lk _ _ _ h').1.symm
      · obtain ⟨rfl, rfl, rfl⟩ := lk k t q' h
        rw [h3]
        exact hR'.loc k0 _ ho (hact ha)
    refine W_sound (base := base) sc c _ _ _ hcode (hW ⟨slotsOf args, fun _ => none, g.tg⟩ (fun _ => rfl) fun x hx => by
      obtain ⟨i, hi⟩ := List.mem_iff_getElem?.1 hx
      obtain ⟨v, _, hv⟩ := hargs.get i x hi
      exact ⟨g, w, v, hv⟩) (fun e σ' g' a w' hq hR' => ?_) g a0 w hR0
    cases e with
    | normal => exact hdone σ' g' a w' hq hR'
    | ret => exact hdone σ' g' a w' hq hR'
    | exit id => exact hq.elim

/-! ### their calls -/
theorem keys_pat1 {k t : Nat} : ∀ {x : AV}, x.pat1 = true → ∀ k', k' ∈ (x.sub1 k t).keys1 → k' = k := by
  have hc : ∀ {c : Cell}, c.pat = true → ∀ k', k' ∈ (c.sub k t).keys → k' = k := by
    intro c hc k' hk
    cases c <;> simp_all [Cell.sub, Cell.keys, Cell.pat]
  intro x hx k' hk
  cases x with
  | c x => exact hc hx k' hk
  | agg cs =>
    simp only [AV.sub1, AV.keys1, keysCs, List.mem_flatMap, List.mem_map] at hk
    obtain ⟨c, ⟨c0, h0, rfl⟩, h1⟩ := hk
    exact hc (List.all_eq_true.1 hx c0 h0) k' h1
  | tup l => simp [AV.sub1, AV.keys1] at hk
  | gd b x => simp [AV.sub1, AV.keys1] at hk
theorem keys_pat {k t : Nat} {x : AV} (hx : x.pat = true) : ∀ k', k' ∈ (x.sub k t).keys2 → k' = k := by
  intro k' hk
  cases x with
  | c x => exact keys_pat1 (x := .c x) hx k' hk
  | agg cs => exact keys_pat1 (x := .agg cs) hx k' hk
  | tup l =>
    simp only [AV.sub, AV.keys2, List.mem_flatMap, List.mem_map] at hk
    obtain ⟨c, ⟨c0, h0, rfl⟩, h1⟩ := hk
    exact keys_pat1 (List.all_eq_true.1 hx c0 h0) k' h1
  | gd b x => simp [AV.sub, AV.sub1, AV.keys2, AV.keys1] at hk
theorem new_sem {key fn : Nat} {fv : AV} {xs : List AV} {pat : AV} {q : Obj} (h0 : un fv = .c (.clo fn [] [])) (h1 : gok true fv) (h2 : ∀ x, x ∈ xs → gok true x) (hp : pat.pat = true) (hq : q.keys = [])
    (h3 : SpecNew P fn (xs.map fun x => toD2 σ (un x)) pat q) : CallSem P σ true fv xs fn [] [] [] [(key, σ.tg key + 1, q)] (pat.sub key (σ.tg key + 1)) [key] where
  c0 := h0
  gf := h1
  gx := h2
  cs _ := by simpa [refs] using h3 key (σ.tg key + 1)
  ci k t q h := by simp at h
  co k t q' h := by
    simp only [List.lookup_cons, List.lookup_nil] at h
    split at h
    · rename_i hk
      have hk : k = key := by simpa using hk
      subst hk; cases h; exact .inl ⟨by simp, rfl⟩
    · cases h
  cp k h := by
    simp at h; subst h; simp
  kres k h := by
    rw [keys_pat hp k h]; simp
  kobs k t q' h := by
    simp only [List.lookup_cons, List.lookup_nil] at h
    split at h
    · cases h; rw [hq]; intro k' hk'; cases hk'
    · cases h
theorem ECall.new {d fn : Nat} {xs args : List AV} {pat : AV} {q : Obj} {K : St → Prop} (key : Nat) (hs : SpecNew P fn args pat q) (hp : pat.pat = true) (hq : q.keys = []) (ha : xs.map (fun x => toD2 σ (un x)) = args)
    (h2 : ∀ x, x ∈ xs → gok true x) (hK : RealA (pat.sub key (σ.tg key + 1)) → K ((σ.new key q).set d (pat.sub key (σ.tg key + 1)))) : ECall P σ (.c (.clo fn [] [])) xs (some d) K := by
  subst ha
  refine ⟨fn, [], [], [], _, _, [key], _, new_sem rfl trivial h2 hp hq hs, .inl rfl, fun h => ?_⟩
  have := ap_new (σ := σ) d key (pat.sub key (σ.tg key + 1)) q []
  simp only [objsOf, List.map_cons, List.map_nil]
  rw [this]
  exact hK (h d rfl)
theorem CallD.new {wk fb : List Nat} {own d fn : Nat} {xs args : List AV} {pat : AV} {q : Obj} {K : St → Prop} (key : Nat) (hs : SpecNew P fn args pat q) (hp : pat.pat = true) (hq : q.keys = []) (ha : xs.map (fun x => toD2 σ (un x)) = args)
    (h2 : ∀ x, x ∈ xs → gok true x) (hw : key ∈ wk) (h5 : okLk fb (own :: (xs.flatMap (fun x => (un x).keys2) ++ [key]))) (hK : K ((σ.new key q).set d (pat.sub key (σ.tg key + 1)))) : CallD P wk fb own σ (.c (.clo fn [] [])) xs (some d) K := by
  subst ha
  refine ⟨fn, [], [], [], _, _, [key], _, new_sem rfl trivial h2 hp hq hs, .inl rfl, ?_, ?_, ?_⟩
  · intro k hk
    simp [objsOf] at hk
    rw [hk]; exact hw
  · intro k hk
    have := h5 k hk
    simpa [objsOf, AV.keys2, AV.keys1, Cell.keys] using this
  · have := ap_new (σ := σ) d key (pat.sub key (σ.tg key + 1)) q []
    simp only [objsOf, List.map_cons, List.map_nil]
    rw [this]
    exact hK
attribute [simp] AV.sub AV.sub1 Cell.sub
end Go.Abs

namespace Go.Abs

variable {P : Program} {base : Nat} {σ σ' : St}

theorem WOps_mono {K K' : St → Prop} (hK : ∀ σ, K σ → K' σ) : ∀ {l : List SO} {σ : St}, WOps P base l σ K → WOps P base l σ K'
  | [], σ, h => hK σ h
  | so :: l, σ, ⟨e, h1, h2⟩ => ⟨e, h1, fun hr => WOps_mono hK (h2 hr)⟩
theorem WD_mono {anc : List Nat} {K K' : St → Prop} (hK : ∀ σ, K σ → K' σ) : ∀ {l : List SO} {i : Nat} {σ : St} {tr : List TE}, WD P base anc i l σ tr K → WD P base anc i l σ tr K'
  | [], i, σ, tr, h => ⟨h.1, hK σ h.2⟩
  | so :: l, i, σ, tr, ⟨e, h1, h2⟩ => ⟨e, h1, WD_mono hK h2⟩

/-- What is owed behind a piece of code may be more than what is asked of it. -/
theorem W_mono : ∀ {x : SCode} {σ : St} {Q Q' : SEx → St → Prop}, W P base x σ Q → (∀ e σ, Q e σ → Q' e σ) → W P base x σ Q' := by
  intro x
  induction x with
  | skip => exact fun h hq => hq _ _ h
  | reg l => exact fun h hq => WOps_mono (hq .normal) h
  | dreg anc l => exact fun h hq => WD_mono (fun σ h hr => hq _ _ (h hr)) h
  | seq x y ihx ihy =>
    intro σ Q Q' h hq
    refine ihx h fun e σ he => ?_
    cases e with
    | normal => exact ihy he hq
    | exit id => exact hq _ _ he
    | ret => exact hq _ _ he
  | cond c x y ihx ihy =>
    intro σ Q Q' h hq
    obtain ⟨h1, t, h2, h3, h4⟩ := h
    exact ⟨h1, t, h2, fun ht => ihx (h3 ht) hq, fun ht => ihy (h4 ht) hq⟩
  | block id x ih =>
    intro σ Q Q' h hq
    refine ih h fun e σ he => ?_
    cases e with
    | normal => exact hq _ _ he
    | exit id' =>
      simp only [onBlock] at he ⊢
      split
      · rename_i hid; rw [if_pos hid] at he; exact hq _ _ he
      · rename_i hid; rw [if_neg hid] at he; exact hq _ _ he
    | ret => exact hq _ _ he
  | loop x ih =>
    intro σ Q Q' h hq
    obtain ⟨J, m, h0, hr⟩ := h
    refine ⟨J, m, h0, fun k σ hk => ih (hr k σ hk) fun e σ he => ?_⟩
    cases e with
    | normal => exact he
    | exit id => exact hq _ _ he
    | ret => exact hq _ _ he
  | exit id => exact fun h hq => hq _ _ h
  | ret => exact fun h hq => hq _ _ h
  | frz k =>
    intro σ Q Q' h hq
    obtain ⟨ty, sz, bs, es, h1, h2⟩ := h
    exact ⟨ty, sz, bs, es, h1, hq _ _ h2⟩

/-- A piece of code that ends as it goes on: what holds behind it. -/
def only (A : St → Prop) : SEx → St → Prop
  | .normal, σ => A σ
  | _, _ => False
@[simp] theorem only_n (A : St → Prop) : only A .normal σ = A σ := rfl
@[simp] theorem only_e (A : St → Prop) (id : Nat) : only A (.exit id) σ = False := rfl
@[simp] theorem only_r (A : St → Prop) : only A .ret σ = False := rfl
theorem W_cut {x : SCode} {Q : SEx → St → Prop} (A : St → Prop) (h : W P base x σ (only A)) (hA : ∀ σ', A σ' → Q .normal σ') : W P base x σ Q :=
  W_mono h fun e σ he => by
    cases e with
    | normal => exact hA σ he
    | exit id => exact he.elim
    | ret => exact he.elim
/-- The same, of a block that is left. -/
theorem W_cutb {id : Nat} {x : SCode} {Q : SEx → St → Prop} (A : St → Prop) (h : W P base x σ (onBlock id (only A))) (hA : ∀ σ', A σ' → Q .normal σ') : W P base x σ (onBlock id Q) := by
  refine W_mono h fun e σ he => ?_
  cases e with
  | normal => exact hA σ he
  | exit id' =>
    simp only [onBlock] at he ⊢
    split
    · rename_i h; rw [if_pos h] at he; exact hA σ he
    · rename_i h; rw [if_neg h] at he; exact he.elim
  | ret => exact he.elim
@[simp] theorem toD_mp (k t : Nat) : toD σ (.mp k t) = .mp k t := rfl
@[simp] theorem toD_bk (f sz bs : Nat) (es : List (List Cell)) : toD σ (.bk f sz bs es) = .bk f sz bs es := rfl
@[simp] theorem k2_bk (f sz bs : Nat) (es : List (List Cell)) : AV.keys2 (.c (.bk f sz bs es)) = [] := rfl
@[simp] theorem toD_itr (f k t : Nat) : toD σ (.itr f k t) = .itr f k t := rfl
@[simp] theorem k2_mp (k t : Nat) : AV.keys2 (.c (.mp k t)) = [k] := rfl
@[simp] theorem k2_itr (f k t : Nat) : AV.keys2 (.c (.itr f k t)) = [k] := rfl
@[simp] theorem ld1P_none : ld1P none = none := rfl
/-! what comes of a value that is not there -/
@[simp] theorem binK_none : binK none = none := rfl
@[simp] theorem binV_bi (op : BinOp) (b : Bool) (k : IntKind) (n : Int) : binV op (.bool b) (.int k n) = none := rfl
@[simp] theorem binV_ib (op : BinOp) (b : Bool) (k : IntKind) (n : Int) : binV op (.int k n) (.bool b) = none := rfl
@[simp] theorem binV_bb (op : BinOp) (a b : Bool) : binV op (.bool a) (.bool b) = none := rfl
@[simp] theorem lenE_b (b : Bool) : lenE σ (.c (.v (.bool b))) = none := rfl
@[simp] theorem fadE_b (off : Nat) (b : Bool) : fadE σ off (.c (.v (.bool b))) = none := rfl
@[simp] theorem iadE_b (sz : Nat) (b : Bool) (i : AV) : iadE σ sz (.c (.v (.bool b))) i = none := rfl
@[simp] theorem convE_b (k : IntKind) (b : Bool) : convE k (.c (.v (.bool b))) = none := rfl
@[simp] theorem loadAt_b (one : Bool) (m : Nat) (b : Bool) : loadAt σ one m (.c (.v (.bool b))) = none := rfl
@[simp] theorem fld1E_b (off : Nat) (b : Bool) : fld1E off (.c (.v (.bool b))) = none := rfl
end Go.Abs

namespace Go.Abs

variable {P : Program} {I : Init} {n base : Nat} {σ σ' : St} {g g' : Gh} {a : Act} {w w' : World} {e : Eff} {o : Oper}

/-! ### told code in a round's frame -/
abbrev FR (r : Option Nat) : Fence := { Fence.wide with round := r }

theorem ok_nodefer {P : Program} {c : Call} (s : SOp) : okOp P (.defer c) s = false ∧ okCall (.defer c) s = false := by
  cases s <;> exact ⟨rfl, rfl⟩
theorem okSO_nodefer {ops : Array Oper} {so : SO} (h : okSO P n ops o so = true) : ∀ c, o.op ≠ .defer c := by
  intro c hc
  simp only [okSO, Bool.and_eq_true, Bool.or_eq_true] at h
  rw [hc] at h
  rcases h.2 with h | h
  · rw [(ok_nodefer (P := P) so.op).1] at h; cases h
  · rw [(ok_nodefer (P := P) so.op).2] at h; cases h

theorem rowsIn_wide {m : Nat} {P : Program} {row : String} {args : Array Value} {w : World} {R : Value → World → Prop} (h : Rows P row args w R) : RowsIn Fence.wide m P row args w R := by
  intro c cs _
  obtain ⟨v, w', hr, hs⟩ := h c cs
  exact ⟨v, w', hr, stepsIn_wide.2 hs⟩

theorem upon_In {r : Option Nat} {m : Nat} {K : Act → World → Prop} {Q : Exit → Act → World → Prop} (hd : ∀ c, o.op ≠ .defer c) (h : o.wp P a w K Q) : o.wpIn (FR r) m P a w K Q := by
  refine ⟨fun _ _ => trivial, ?_⟩
  rw [Oper.semAt_eq _ _ _ hd]
  unfold Oper.wp at h
  generalize (execOp a.eval o).run P w = x at h ⊢
  cases x with
  | ok x w' =>
    cases x <;> simp only [Oper.upon, Oper.uponIn] at h ⊢ <;>
      first
        | exact h
        | exact ⟨fun h => (by cases h), (callsIn_wide.2 (h.mono fun e w'' he => by cases e <;> exact he) : CallsIn Fence.wide _ _ _ _ _ _)⟩
        | exact ⟨fun h => (by cases h), (rowsIn_wide h : RowsIn Fence.wide _ _ _ _ _ _)⟩
        | exact h.elim
  | halt x w' => cases x <;> simp only [Oper.upon, Oper.uponIn] at h ⊢ <;> exact h

theorem wpOp_In {r : Option Nat} {m i : Nat} {ops : Array Oper} {K : Act → World → Prop} {Q : Exit → Act → World → Prop} (hd : ∀ (i : Nat) o, ops[i]? = some o → ∀ c, o.op ≠ .defer c) (hQ : ¬ LetsOut Q) (h : wpOp P ops Q i K a w) :
    wpOpIn (FR r) m P ops Q i K a w := by
  unfold wpOp at h
  unfold wpOpIn
  split
  · rename_i hi
    simp only [hi] at h
    exact h
  · rename_i o hi
    simp only [hi] at h
    split
    · rename_i hw
      simp only [hw, if_true] at h
      rcases h with h | h
      · exact upon_In (hd i o hi) h
      · exact absurd h.2 hQ
    · rename_i hw
      simp only [hw] at h
      exact ⟨fun _ _ => trivial, h⟩

theorem wpOps_In {r : Option Nat} {m : Nat} {ops : Array Oper} {Q : Exit → Act → World → Prop} (hd : ∀ (i : Nat) o, ops[i]? = some o → ∀ c, o.op ≠ .defer c) (hQ : ¬ LetsOut Q) : ∀ (l : List Nat) (a : Act) (w : World), wpOps P ops Q l a w → wpOpsIn (FR r) m P ops Q l a w
  | [], a, w, h => h
  | i :: l, a, w, h => by
    rw [wpOps_cons] at h
    rw [wpOpsIn_cons]
    exact wpOpIn_mono (fun a w => wpOps_In hd hQ l a w) (wpOp_In hd hQ h)

theorem wpAny_In {r : Option Nat} {m : Nat} {md : Region.Mode} {ops : Array Oper} {Q : Exit → Act → World → Prop} (hd : ∀ (i : Nat) o, ops[i]? = some o → ∀ c, o.op ≠ .defer c) (hQ : ¬ LetsOut Q) : ∀ (fuel : Nat) (listed : Array Bool) (a : Act) (w : World), wpAny P md ops Q fuel listed a w → wpAnyIn (FR r) m P md ops Q fuel listed a w
  | 0, listed, a, w, h => h
  | fuel + 1, listed, a, w, h => ⟨h.1, fun i hi => wpOpIn_mono (fun a w => wpAny_In hd hQ fuel _ a w) (wpOp_In hd hQ (h.2 i hi))⟩

theorem okOps_nodefer {ops : Array Oper} {sos : List SO} (h : okOps P n ops ops.toList sos = true) : ∀ (i : Nat) o, ops[i]? = some o → ∀ c, o.op ≠ .defer c := by
  intro i o hi
  have hl := okOps_len h
  have hlt := (Array.getElem?_eq_some_iff.1 hi).1
  have : i < sos.length := by simp at hl; omega
  obtain ⟨o', h1, h2⟩ := okOps_get h i _ (List.getElem?_eq_getElem this)
  have : o' = o := by
    have h1' : ops[i]? = some o' := by simpa using h1
    rw [hi] at h1'; cases h1'; rfl
  subst this
  exact okSO_nodefer h2

def noLoop : SCode → Bool
  | .loop _ => false
  | .seq x y => noLoop x && noLoop y
  | .cond _ x y => noLoop x && noLoop y
  | .block _ x => noLoop x
  | _ => true

theorem W_soundR {r : Option Nat} {m base : Nat} : ∀ (sc : SCode) (c : Code) (σ : St) (Q : SEx → St → Prop) (R : Exit → Act → World → Prop), noLoop sc = true → ¬ LetsOut R → okCode P n sc c = true → W P base sc σ Q →
    (∀ e σ' g a w, Q e σ' → Rel I n σ' g a w → R e.up a w) → ∀ g a w, Rel I n σ g a w → c.wpIn (FR r) m P R a w := by
  intro sc
  induction sc with
  | skip =>
    intro c σ Q R hnl hlo hok hW hQ g a w hR
    cases c <;> simp only [okCode, Bool.false_eq_true] at hok
    exact wpIn_skip (hQ .normal _ _ _ _ hW hR)
  | reg l =>
    intro c σ Q R hnl hlo hok hW hQ g a w hR
    simp only [okCode] at hok
    split at hok
    · rename_i ops
      refine wpIn_region ?_
      have hl := okOps_len hok
      have : List.range ops.size = List.range' 0 l.length := by rw [List.range_eq_range']; simp at hl; rw [hl]
      rw [this]
      exact wpOps_In (okOps_nodefer hok) hlo _ _ _ (text2 (pre := []) hok (fun σ g a w h hR' => hQ .normal _ _ _ _ h hR') (by simp) hW hR)
    · cases hok
  | dreg anc l =>
    intro c σ Q R hnl hlo hok hW hQ g a w hR
    simp only [okCode] at hok
    split at hok
    · rename_i ops
      simp only [Bool.and_eq_true] at hok
      obtain ⟨⟨⟨h0, h1⟩, h2⟩, h3⟩ := hok
      obtain ⟨tr, σ', h4, h5, h6⟩ := WD_tr (pre := []) (tr0 := []) hW
      have hl := okOps_len h1
      simp at hl
      have hrange : List.range' 0 l.length = List.range l.length := by rw [List.range_eq_range']
      have ht : Tr P base l (List.range l.length) σ tr σ' := by rw [← hrange]; simpa using h4
      refine wpIn_region_any h0 (wpAny_In (okOps_nodefer h1) hlo _ _ _ _ ?_)
      refine draw_sound (σ' := σ') h1 (okAnc_spec h2) (fun a w g hR' => hQ .normal _ _ _ _ (h6 fun s => ⟨_, _, _, hR'.slots s⟩) hR') ops.size _ (List.range l.length) σ tr g a _ (by simp) (by simp [hl]) (fun j => ?_) List.pairwise_lt_range ht
        (fine_pairs ht rfl h3 (by simpa using h5)) (fun j o hj hlj => ?_) (hR.drew _)
      · simp [Array.getD, hl]
      · exfalso
        simp [listedB, Array.getD] at hlj
    · cases hok
  | seq x y ihx ihy =>
    intro c σ Q R hnl hlo hok hW hQ g a w hR
    simp only [okCode] at hok
    split at hok
    · rename_i hf
      cases x <;> simp [isFrz] at hf
      rename_i k
      obtain ⟨ty, sz, bs, es, h1, h2⟩ := hW
      obtain ⟨g', hR'⟩ := frz_sound hR h1
      exact ihy c _ Q R (by simpa [noLoop] using hnl) hlo hok h2 hQ g' a w hR'
    · split at hok
      · rename_i x' y'
        simp only [Bool.and_eq_true] at hok
        simp only [noLoop, Bool.and_eq_true] at hnl
        refine wpIn_seq (ihx x' σ _ (Exit.then (y'.wpIn (FR r) m P R) R) hnl.1 (fun ⟨a, w, h⟩ => hlo ⟨a, w, h⟩) hok.1 hW (fun e σ' g a w h hR' => ?_) g a w hR)
        cases e with
        | normal => exact ihy y' σ' Q R hnl.2 hlo hok.2 h hQ g a w hR'
        | exit id => exact hQ _ _ _ _ _ h hR'
        | ret => exact hQ _ _ _ _ _ h hR'
      · cases hok
  | cond c' x y ihx ihy =>
    intro c σ Q R hnl hlo hok hW hQ g a w hR
    simp only [okCode] at hok
    split at hok
    · rename_i d x' y'
      simp only [Bool.and_eq_true] at hok
      obtain ⟨⟨h1, h2⟩, h3⟩ := hok
      obtain ⟨q1, t, q2, q3, q4⟩ := hW
      have hv := opd hR h1 q1
      rw [q2] at hv
      have hb := RV2_v hv
      simp only [noLoop, Bool.and_eq_true] at hnl
      exact wpIn_cond_split hb (fun ht => ihx x' σ Q R hnl.1 hlo h2 (q3 ht) hQ g a w hR) (fun ht => ihy y' σ Q R hnl.2 hlo h3 (q4 ht) hQ g a w hR)
    · cases hok
  | block id x ih =>
    intro c σ Q R hnl hlo hok hW hQ g a w hR
    simp only [okCode] at hok
    split at hok
    · rename_i id' x'
      simp only [Bool.and_eq_true, decide_eq_true_eq] at hok
      obtain ⟨rfl, h1⟩ := hok
      refine wpIn_block (ih x' σ _ (Exit.inBlock id' R) hnl (fun ⟨a, w, h⟩ => hlo ⟨a, w, h⟩) h1 hW (fun e σ' g a w h hR' => ?_) g a w hR)
      cases e with
      | normal => exact hQ .normal _ _ _ _ h hR'
      | exit id'' =>
        simp only [onBlock] at h
        simp only [SEx.up, Exit.inBlock]
        split
        · rename_i he; rw [if_pos he] at h; exact hQ .normal _ _ _ _ h hR'
        · rename_i he; rw [if_neg he] at h; exact hQ (.exit id'') _ _ _ _ h hR'
      | ret => exact hQ .ret _ _ _ _ h hR'
    · cases hok
  | loop x ih =>
    intro c σ Q R hnl hlo hok hW hQ g a w hR
    simp [noLoop] at hnl
  | exit id =>
    intro c σ Q R hnl hlo hok hW hQ g a w hR
    cases c <;> simp only [okCode, Bool.false_eq_true, decide_eq_true_eq] at hok
    subst hok
    exact wpIn_exit (hQ (.exit _) _ _ _ _ hW hR)
  | ret =>
    intro c σ Q R hnl hlo hok hW hQ g a w hR
    cases c <;> simp only [okCode, Bool.false_eq_true] at hok
    exact wpIn_ret (hQ .ret _ _ _ _ hW hR)
  | frz k =>
    intro c σ Q R hnl hlo hok
    simp [okCode] at hok
end Go.Abs

namespace Go.Abs

variable {P : Program} {I : Init} {n base : Nat} {σ σ' : St} {g g' g1 g2 : Gh} {a a' : Act} {w w' w1 w2 : World} {e : Eff} {o : Oper}

/-! ### from one state of memory to a later one -/
def own (ob : Nat → Option Obj) (g : Gh) (b : Nat) : Prop := ∃ k q, ob k = some q ∧ Active g k q ∧ g.blk k = b

structure Mv (X : Nat → Prop) (ob : Nat → Option Obj) (g : Gh) (w : World) (ob' : Nat → Option Obj) (g' : Gh) (w' : World) : Prop where
  kp : Kp g w g' w'
  le : g.Le g'
  os : w'.os = w.os
  tape : w'.tape = w.tape
  out : w'.output = w.output
  grow : w.heap.size ≤ w'.heap.size
  frame : ∀ b, b < w.heap.size → ¬ own ob g b → (¬ X b → w'.heap[b]? = w.heap[b]?) ∧ ∀ x, g'.st b x ↔ g.st b x
  loc : ∀ k q, ob' k = some q → Active g' k q → own ob g (g'.blk k) ∨ w.heap.size ≤ g'.blk k

theorem Mv.trans {X : Nat → Prop} {ob ob1 ob2 : Nat → Option Obj} (h : Mv X ob g w ob1 g1 w1) (k : Mv X ob1 g1 w1 ob2 g2 w2) : Mv X ob g w ob2 g2 w2 where
  kp := h.kp.trans k.kp
  le := h.le.trans k.le
  os := k.os.trans h.os
  tape := k.tape.trans h.tape
  out := k.out.trans h.out
  grow := Nat.le_trans h.grow k.grow
  frame b hb hn := by
    have h1 := h.frame b hb hn
    have h2 := k.frame b (Nat.lt_of_lt_of_le hb h.grow) (by
      rintro ⟨k', q, e1, e2, e3⟩
      rcases h.loc k' q e1 e2 with h | h
      · rw [e3] at h; exact hn h
      · omega)
    exact ⟨fun hx => (h2.1 hx).trans (h1.1 hx), fun x => (h2.2 x).trans (h1.2 x)⟩
  loc k' q e1 e2 := by
    rcases k.loc k' q e1 e2 with ⟨k2, q2, f1, f2, f3⟩ | h'
    · rw [← f3]; exact h.loc k2 q2 f1 f2
    · exact .inr (Nat.le_trans h.grow h')

theorem Rel.mv {X : Nat → Prop} {ob0 : Nat → Option Obj} {g0 : Gh} {w0 : World} {ds : List Deferred} (hR : Rel ⟨g0, w0, own ob0 g0, ds⟩ n σ g a w) : Mv X ob0 g0 w0 σ.ob g w :=
  ⟨hR.kp, hR.le, hR.os, hR.tape, hR.out, hR.grow, fun b hb hn => ⟨fun _ => (hR.frame b hb hn).1, (hR.frame b hb hn).2⟩, hR.loc⟩

theorem cell_put {L : Nat} {q : Go.Obj} {ad : Addr} (h : ad.block ≠ L) : (w.putObj L q).cell? ad = w.cell? ad := World.cell?_of_block (World.putObj_heap_other h)
theorem Mv.put {X : Nat → Prop} {ob : Nat → Option Obj} {L : Nat} (q : Go.Obj) (hX : X L) (hs : ∀ x, ¬ g.st L x) : Mv X ob g w ob g (w.putObj L q) where
  kp := ⟨fun ad h => ⟨h, cell_put fun e => hs _ (e ▸ h)⟩⟩
  le := Gh.Le.refl g
  os := rfl
  tape := rfl
  out := rfl
  grow := by simp
  frame b hb hn := ⟨fun hx => World.putObj_heap_other fun e => hx (e ▸ hX), fun _ => Iff.rfl⟩
  loc k q e1 e2 := .inl ⟨k, q, e1, e2, rfl⟩
theorem Mv.alloc {X : Nat → Prop} {ob : Nat → Option Obj} (q : Go.Obj) (hw : ∀ b x, g.st b x → b < w.heap.size) : Mv X ob g w ob g (w.alloc q) where
  kp := ⟨fun ad h => ⟨h, World.cell?_of_block (Go.RowKit.Below.heap_alloc _ _ _ (hw _ _ h))⟩⟩
  le := Gh.Le.refl g
  os := rfl
  tape := rfl
  out := rfl
  grow := by simp
  frame b hb hn := ⟨fun hx => Go.RowKit.Below.heap_alloc _ _ _ hb, fun _ => Iff.rfl⟩
  loc k q e1 e2 := .inl ⟨k, q, e1, e2, rfl⟩

/-- The objects, as they lie. -/
structure Lay (ob : Nat → Option Obj) (tg : Nat → Nat) (g : Gh) (w : World) : Prop where
  tags : ∀ k, g.tg k = tg k
  obs : ∀ k o, ob k = some o → ObOK g w k o
  sep : ∀ k k' o o', ob k = some o → ob k' = some o' → Active g k o → Active g k' o' → g.blk k = g.blk k' → k = k'
  wok : ∀ b o, g.st b o → b < w.heap.size

theorem Rel.lay (hR : Rel I n σ g a w) : Lay σ.ob σ.tg g w := ⟨hR.tags, hR.obs, hR.sep, hR.wok⟩
theorem Lay.same {ob : Nat → Option Obj} {tg : Nat → Nat} (h : Lay ob tg g w) (hk : Kp g w g w') (hs : w.heap.size ≤ w'.heap.size) (hb : ∀ k q, ob k = some q → Active g k q → w'.heap[g.blk k]? = w.heap[g.blk k]?) : Lay ob tg g w' :=
  ⟨h.tags, fun k q e => ObOK.mono hk (Gh.Le.refl g) rfl (fun ha => ⟨hb k q e ha, fun _ h => h⟩) (h.obs k q e), h.sep, fun b x hx => Nat.lt_of_lt_of_le (h.wok b x hx) hs⟩
theorem ObOK.in {k : Nat} {q : Obj} (h : ObOK g w k q) (ha : Active g k q) : g.blk k < w.heap.size := by
  cases q with
  | box ty cs => obtain ⟨vs, h, _⟩ := h; exact (Array.getElem?_eq_some_iff.1 h).1
  | row ty sz bs es =>
    obtain ⟨x, m, c, e, hl⟩ := ha
    obtain ⟨_, ⟨arr, h, _⟩, _⟩ := h.2 x m c e hl
    exact (Array.getElem?_eq_some_iff.1 h).1
  | mrow ty sz bs es => obtain ⟨arr, c, _, _, h, _⟩ := h; exact (Array.getElem?_eq_some_iff.1 h).1
  | mob one es => obtain ⟨arr, c, h, _⟩ := h; exact (Array.getElem?_eq_some_iff.1 h).1
theorem Lay.put {ob : Nat → Option Obj} {tg : Nat → Nat} {L : Nat} (q : Go.Obj) (h : Lay ob tg g w) (hs : ∀ x, ¬ g.st L x) (hn : ¬ own ob g L) : Lay ob tg g (w.putObj L q) :=
  h.same (Mv.put (X := fun _ => True) (ob := ob) q trivial hs).kp (by simp) fun k q' e ha => World.putObj_heap_other fun he => hn ⟨k, q', e, ha, he⟩
theorem Lay.alloc {ob : Nat → Option Obj} {tg : Nat → Nat} (q : Go.Obj) (h : Lay ob tg g w) : Lay ob tg g (w.alloc q) :=
  h.same (Mv.alloc (X := fun _ => True) (ob := ob) q h.wok).kp (by simp) fun k q' e ha => Go.RowKit.Below.heap_alloc _ _ _ ((h.obs k q' e).in ha)

/-- A frame of one's own, upon memory as it lies. -/
theorem Lay.rel {ob : Nat → Option Obj} {tg : Nat → Nat} {sl : Nat → AV} (h : Lay ob tg g w) (hz : a.tmps.size = n) (hsl : ∀ s, RV g w (sl s) (a.tmps.getD s undef)) : Rel ⟨g, w, own ob g, a.defers⟩ n ⟨sl, ob, tg⟩ g a w :=
  { size := hz, tags := h.tags, slots := hsl, defs := rfl, obs := h.obs, sep := h.sep, wok := h.wok, os := rfl, tape := rfl, out := rfl, grow := Nat.le_refl _
    frame := fun _ _ _ => ⟨rfl, fun _ => Iff.rfl⟩, kp := Kp.refl g w, le := Gh.Le.refl g, loc := fun k q e ha => .inl ⟨k, q, e, ha, rfl⟩ }
theorem Rel.build {X : Nat → Prop} {ob' : Nat → Option Obj} {tg' : Nat → Nat} (hR : Rel I n σ g a w) (hm : Mv X σ.ob g w ob' g' w') (hX : ∀ b, X b → I.w0.heap.size ≤ b) (hl : Lay ob' tg' g' w') : Rel I n ⟨σ.sl, ob', tg'⟩ g' a w' :=
  { size := hR.size, tags := hl.tags, slots := fun s => (hR.slots s).mono hm.kp hm.le, defs := hR.defs, obs := hl.obs, sep := hl.sep, wok := hl.wok
    os := hm.os.trans hR.os, tape := hm.tape.trans hR.tape, out := hm.out.trans hR.out, grow := Nat.le_trans hR.grow hm.grow
    frame := fun b hb hn => by
      have h1 := hR.frame b hb hn
      have h2 := hm.frame b (Nat.lt_of_lt_of_le hb hR.grow) (by
        rintro ⟨k, q, e1, e2, e3⟩
        rcases hR.loc k q e1 e2 with h | h
        · rw [e3] at h; exact hn h
        · omega)
      exact ⟨(h2.1 fun hx => by have := hX b hx; omega).trans h1.1, fun x => (h2.2 x).trans (h1.2 x)⟩
    kp := hR.kp.trans hm.kp, le := hR.le.trans hm.le
    loc := fun k q e ha => by
      rcases hm.loc k q e ha with ⟨k', q', f1, f2, f3⟩ | h
      · rw [← f3]; exact hR.loc k' q' f1 f2
      · exact .inr (Nat.le_trans hR.grow h) }

/-- A block that is no object's, and none of whose cells stays. -/
structure Free (ob : Nat → Option Obj) (g : Gh) (L : Nat) : Prop where
  st : ∀ x, ¬ g.st L x
  no : ¬ own ob g L
theorem Mv.free {X : Nat → Prop} {ob ob' : Nat → Option Obj} {L : Nat} (h : Mv X ob g w ob' g' w') (hL : L < w.heap.size) (hf : Free ob g L) : Free ob' g' L := by
  have := h.frame L hL hf.no
  refine ⟨fun x hx => hf.st x ((this.2 x).1 hx), ?_⟩
  rintro ⟨k, q, e1, e2, e3⟩
  rcases h.loc k q e1 e2 with h' | h'
  · rw [e3] at h'; exact hf.no h'
  · omega
end Go.Abs

namespace Go.Abs

variable {P : Program} {I : Init} {n base : Nat} {σ σ' : St} {g g' g1 g2 : Gh} {a a' : Act} {w w' w1 w2 : World} {e : Eff} {o : Oper}

/-! ### an iterator over a list, from its end to its beginning -/
abbrev yv (l : Nat) : Value := .func (.yield l) #[] #[]

/-- What the rounds owe. -/
structure Rounds (P : Program) (l sz bs : Nat) (es : List (List Cell)) (b : Nat) (J : Nat → Gh → World → Prop) : Prop where
  grow : ∀ i g W st W', J i g W → Mv (fun _ => False) (fun _ => none) g W (fun _ => none) { g with st := st } W' → (∀ b x, st b x → b < W'.heap.size) → J i { g with st := st } W'
  see : ∀ i g W, J i g W → (∀ b x, g.st b x → b < W.heap.size) ∧ ∃ x, Lies g W ⟨b, 0, none⟩ x ∧ RD g W (.sl sz bs es) x
  go : ∀ i g W l' v, J i g W → i < es.length → es[es.length - 1 - i]? = some l' → RV1 g W (.agg l') v →
    YieldAt Fence.wide 0 P l #[.int .i64 ((es.length - 1 - i : Nat) : Int), v] W fun e W' => e = .returned (.bool true) ∧ ∃ g', J (i + 1) g' W' ∧ Kp g W g' W' ∧ g.Le g'

def BackIter (P : Program) (fB sz bs : Nat) : Prop := EntersF P fB ∧ ∀ (l b : Nat) (es : List (List Cell)) (J : Nat → Gh → World → Prop) (g : Gh) (W : World), es.length ≤ 4611686018427387904 → Rounds P l sz bs es b J → J 0 g W →
  CallsIn Fence.wide 0 P fB #[yv l, .pointer (some ⟨b, 0, none⟩)] W fun e W' => (∃ v, e = .returned v) ∧ ∃ g', J es.length g' W'

/-- A function's first state. -/
theorem rel0 {args : List AV} {vs : Array Value} {m N : Nat} {mn : Nat → Prop} (hm : args.length = m) (hmn : m ≤ n) (hn : N = n) (hwok : ∀ b o, g.st b o → b < w.heap.size) (hargs : All2 (RV2 g w) args vs.toList) :
    Rel ⟨g, w, mn, []⟩ n ⟨slotsOf args, fun _ => none, g.tg⟩ g { tmps := vs ++ Array.replicate (N - vs.size) undef, defers := [] } w := by
  have hlen : vs.size = m := by rw [← hm]; simpa using hargs.length.symm
  exact
    { size := by simp only [Array.size_append, Array.size_replicate]; omega
      tags := fun _ => rfl
      slots := fun s => by
        simp only [slotsOf]
        by_cases hs : s < args.length
        · have hget : args[s]? = some args[s] := List.getElem?_eq_getElem hs
          obtain ⟨v, hv, hrv⟩ := hargs.get s _ hget
          have e1 : args.getD s (.c .junk) = args[s] := by simp [hs]
          have e2 : (vs ++ Array.replicate (N - vs.size) undef).getD s undef = v := by
            have hsv : s < vs.size := by omega
            have hv' : vs[s]? = some v := by simpa using hv
            simp only [Array.getD_eq_getD_getElem?]
            rw [Array.getElem?_append_left hsv, hv']; rfl
          rw [e1]
          show RV g w args[s] ((vs ++ Array.replicate (N - vs.size) undef).getD s undef)
          rw [e2]
          exact RV_of2 hrv
        · have e1 : args.getD s (.c .junk) = .c .junk := by simp [hs]
          rw [e1]
          exact fun h => absurd rfl h
      defs := rfl
      obs := fun k q h => by cases h
      sep := fun k k' q q' h => by cases h
      wok := hwok, os := rfl, tape := rfl, out := rfl, grow := Nat.le_refl _
      frame := fun _ _ _ => ⟨rfl, fun _ => Iff.rfl⟩
      kp := Kp.refl g w, le := Gh.Le.refl g
      loc := fun k q h ha => by cases h }

/-! the iterator's function: 'for i := len(s) - 1; i >= 0; i-- { if !yield(i, s[i]) { return } }' -/
abbrev k1 : SArg := .k (.int .i64 1)
def it0 (ty : Nat) : SCode := .reg [⟨some 4, none, .ld1 ty (.t 1)⟩, ⟨some 5, none, .len ty (.t 4)⟩, ⟨some 6, none, .bin .sub (.t 5) k1⟩, ⟨some 3, none, .mv (.t 6)⟩]
def it1 : SCode := .seq (.reg [⟨some 7, none, .mv (.t 3)⟩, ⟨some 8, none, .bin .geq (.t 7) (.k (.int .i64 0))⟩]) (.cond (.t 8) .skip (.exit 0))
def it3a (ty ety sz : Nat) : List SO := [⟨some 11, none, .mv (.t 0)⟩, ⟨some 12, none, .mv (.t 3)⟩, ⟨some 13, none, .ld1 ty (.t 1)⟩, ⟨some 14, none, .mv (.t 3)⟩, ⟨some 15, none, .iad ety sz (.t 13) (.t 14)⟩, ⟨some 16, none, .ldn ety sz (.t 15)⟩]
def it3b : SO := ⟨some 17, none, .call (.t 11) [.t 12, .t 16]⟩
def it3c : SO := ⟨some 18, none, .not (.t 17)⟩
def it2 : SCode := .reg [⟨some 9, none, .mv (.t 3)⟩, ⟨some 10, none, .bin .sub (.t 9) k1⟩, ⟨some 3, none, .mv (.t 10)⟩]

def okIter (P : Program) (f n ty ety sz : Nat) : Bool := match P.funcs[f]? with
  | some fn => match fn.body with
    | some (.seq x0 (.block 0 (.loop (.seq x1 (.seq (.block 1 (.seq (.region _ o3 false) (.cond (.tmp 18) .ret .skip))) x2))))) =>
      decide (fn.ntmps = n) && okCode P n (it0 ty) x0 && okCode P n it1 x1 && okCode P n it2 x2 && okOps P n o3 o3.toList (it3a ty ety sz ++ [it3b, it3c]) && fn.results.isEmpty && decide (18 < n) && !(fn.name == "runtime.NumGoroutine")
    | _ => false
  | none => false

theorem textIn {r : Option Nat} {ops : Array Oper} {sos : List SO} {Q : Exit → Act → World → Prop} {K : St → Prop} {rest : List Nat} (hok : okOps P n ops ops.toList sos = true) (hQ : ¬ LetsOut Q)
    (hK : ∀ σ g a w, K σ → Rel I n σ g a w → wpOpsIn (FR r) 0 P ops Q rest a w) :
    ∀ {l post : List SO} {pre : List SO} {σ : St} {g a w}, sos = pre ++ l ++ post → WOps P base l σ K → Rel I n σ g a w → wpOpsIn (FR r) 0 P ops Q (List.range' pre.length l.length ++ rest) a w
  | [], post, pre, σ, g, a, w, _, h, hR => by simpa using hK _ _ _ _ h hR
  | so :: l, post, pre, σ, g, a, w, hs, h, hR => by
    obtain ⟨e, h1, h2⟩ := h
    rw [List.length_cons, List.range'_succ, List.cons_append, wpOpsIn_cons]
    refine wpOp_In (okOps_nodefer hok) hQ (one_op hR hok (by rw [hs]; simp) h1 fun a' w' g' hR' => ?_)
    have hcall : ∀ d, so.dst = some d → so.op.isCall = true → RealA e.val := fun d hd hc => by
      have := hR'.slots d
      rw [hd] at this
      simp only [St.ap, upd, if_true] at this
      exact ⟨_, _, _, this⟩
    have := textIn (pre := pre ++ [so]) hok hQ hK (l := l) (post := post) (by rw [hs]; simp) (h2 hcall) hR'
    simpa using this

/-- A call of yield. -/
theorem yield_op {ops : Array Oper} {sos : List SO} {i l : Nat} {Q : Exit → Act → World → Prop} {K : Act → World → Prop} {s d : Nat} {xs : List SArg} {v1 v2 : Value} {R : Ending → World → Prop} (hok : okOps P n ops ops.toList sos = true)
    (hi : sos[i]? = some ⟨some d, none, .call (.t s) xs⟩) (hs : a.tmps.getD s undef = yv l) (hxs : ∀ args, okL args xs = true → args.map a.eval = [v1, v2]) (hy : YieldAt Fence.wide 0 P l #[v1, v2] w R)
    (hR : ∀ e w', R e w' → ∃ v, e = .returned v ∧ K (a.put (some d) v) w') : wpOpIn Fence.wide 0 P ops Q i K a w := by
  obtain ⟨o, ho, hso⟩ := okOps_get hok i _ hi
  have ho : ops[i]? = some o := by simpa using ho
  simp only [okSO, Bool.and_eq_true, decide_eq_true_eq] at hso
  obtain ⟨⟨⟨hd, hdn⟩, hg⟩, hop⟩ := hso
  have hgn : o.guard = none := by
    split at hg
    · assumption
    · rename_i h; cases h
    · cases hg
  have hoc : okCall o.op (.call (.t s) xs) = true := by
    rcases Bool.or_eq_true _ _ ▸ hop with h1 | h1
    · unfold okOp at h1
      cases eo : o.op <;> rw [eo] at h1 <;> simp only [reduceCtorEq, Bool.false_eq_true] at h1
    · exact h1
  unfold okCall at hoc
  split at hoc
  · rename_i x args ats f' xs' eop eso
    cases eso
    simp only [Bool.and_eq_true] at hoc
    have hx : a.eval x = yv l := by
      have h1 := hoc.1
      cases x <;> simp [okA] at h1
      subst h1
      exact hs
    have hargs : args.map a.eval = #[v1, v2] := by
      have := hxs _ hoc.2
      rw [← Array.toArray_toList (xs := args), List.map_toArray, this]
    obtain ⟨fn, tmps, assign, body, h1, h2⟩ := hy
    unfold wpOpIn
    rw [ho]
    simp only [Region.wanted, hgn, if_true]
    refine ⟨fun _ _ => trivial, ?_⟩
    have hrun : ((o.semAt Fence.wide.round a.eval).run P w) = .ok (.round l fn tmps assign body) w := by
      show (execOp a.eval o).run P w = _
      simp [execOp, eop, resolve, hx, Deferred.ofValue, invoke, hargs, h1]
    rw [hrun]
    refine ⟨fun h => (by cases h), h2.mono fun e w' he => ?_⟩
    obtain ⟨v, rfl, hk⟩ := hR e w' he
    rw [hd]
    exact hk
  · cases hoc
end Go.Abs

namespace Go.Abs

variable {P : Program} {I : Init} {n base : Nat} {σ σ' : St} {g g' g1 g2 : Gh} {a a' : Act} {w w' w1 w2 : World} {e : Eff} {o : Oper}

/-! ### the iterator's own frame -/
def slA (l sz bs : Nat) (es : List (List Cell)) (z : Int) : Nat → AV := fun s => if s = 0 then .c (.v (yv l)) else if s = 1 then .c (.elp [.sl sz bs es] 0) else if s = 3 then .c (.v (.int .i64 z)) else .c .junk
structure At (n l sz bs : Nat) (es : List (List Cell)) (J : Nat → Gh → World → Prop) (i : Nat) (z : Int) (g : Gh) (a : Act) (W : World) : Prop where
  j : J i g W
  wok : ∀ b x, g.st b x → b < W.heap.size
  size : a.tmps.size = n
  defs : a.defers = []
  t0 : a.tmps.getD 0 undef = yv l
  t1 : ∃ ad, a.tmps.getD 1 undef = .pointer (some ad) ∧ ∃ x, Lies g W ad x ∧ RD g W (.sl sz bs es) x
  t3 : a.tmps.getD 3 undef = .int .i64 z

theorem opd_t {s : Nat} {x : AV} (hR : Rel I n σ g a w) (hs : σ.sl s = x) : RV g w x (a.tmps.getD s undef) := by rw [← hs]; exact hR.slots s
variable {l sz bs i : Nat} {es : List (List Cell)} {J : Nat → Gh → World → Prop} {z : Int} {V : World}

theorem add0 (ad : Addr) : ad.add 0 = ad := by simp [Addr.add]
theorem RC_elp {ad : Addr} {x : Value} (h1 : Lies g w ad x) (h2 : RD g w (.sl sz bs es) x) : RC g w (.elp [.sl sz bs es] 0) (.pointer (some ad)) :=
  ⟨_, rfl, fun i d hd => by
    cases i with
    | zero => simp at hd; subst hd; exact ⟨x, by rw [add0]; exact h1, h2⟩
    | succ i => simp at hd⟩

theorem At.rel (h : At n l sz bs es J i z g a V) : Rel ⟨g, V, fun _ => False, []⟩ n ⟨slA l sz bs es z, fun _ => none, g.tg⟩ g a V :=
  { size := h.size, tags := fun _ => rfl, defs := h.defs, obs := fun k q h => (by cases h), sep := fun k k' q q' h => (by cases h), wok := h.wok, os := rfl, tape := rfl, out := rfl, grow := Nat.le_refl _
    frame := fun _ _ _ => ⟨rfl, fun _ => Iff.rfl⟩, kp := Kp.refl g V, le := Gh.Le.refl g, loc := fun k q h => (by cases h)
    slots := fun s => by
      simp only [slA]
      by_cases h0 : s = 0
      · rw [if_pos h0, h0, h.t0]; exact fun _ => .v _ rfl
      · by_cases h1 : s = 1
        · rw [if_neg h0, if_pos h1, h1]
          obtain ⟨ad, e, x, q1, q2⟩ := h.t1
          rw [e]; exact fun _ => RC_elp q1 q2
        · by_cases h3 : s = 3
          · rw [if_neg h0, if_neg h1, if_pos h3, h3, h.t3]; exact fun _ => .v _ rfl
          · rw [if_neg h0, if_neg h1, if_neg h3]; exact fun hn => absurd rfl hn }

/-- Back from a frame in which only data were looked at. -/
theorem At.back (hg : ∀ i g V st V', J i g V → Mv (fun _ => False) (fun _ => none) g V (fun _ => none) { g with st := st } V' → (∀ b x, st b x → b < V'.heap.size) → J i { g with st := st } V')
    (hJ : J i g V) (hR : Rel ⟨g, V, fun _ => False, []⟩ n σ g' a w) (s0 : σ.sl 0 = .c (.v (yv l))) (s1 : σ.sl 1 = .c (.elp [.sl sz bs es] 0)) (s3 : σ.sl 3 = .c (.v (.int .i64 z))) :
    At n l sz bs es J i z { g with st := g'.st } a w ∧ Kp g V { g with st := g'.st } w := by
  have hkp : Kp g V { g with st := g'.st } w := ⟨fun ad h => hR.kp.keep ad h⟩
  have hk2 : Kp g' w { g with st := g'.st } w := ⟨fun ad h => ⟨h, rfl⟩⟩
  have hmv : Mv (fun _ => False) (fun _ => none) g V (fun _ => none) { g with st := g'.st } w :=
    ⟨hkp, ⟨fun k => .inr ⟨rfl, rfl, rfl⟩⟩, hR.os, hR.tape, hR.out, hR.grow, fun b hb _ => ⟨fun _ => (hR.frame b hb (fun h => h)).1, (hR.frame b hb (fun h => h)).2⟩, fun k q h => by cases h⟩
  refine ⟨⟨hg i g V g'.st w hJ hmv hR.wok, hR.wok, hR.size, hR.defs, ?_, ?_, ?_⟩, hkp⟩
  · exact RV2_v (opd_t hR s0)
  · obtain ⟨ad, e, hh⟩ := opd_t hR s1 (by simp)
    obtain ⟨x, q1, q2⟩ := hh 0 _ rfl
    rw [add0] at q1
    exact ⟨ad, e, x, hk2.lies q1, q2.mono hk2⟩
  · exact RV2_v (opd_t hR s3)

/-- A piece of the iterator's code. -/
theorem At.piece {sc : SCode} {c : Code} {z' : Int} {R : Exit → Act → World → Prop} {E : SEx → Prop} (hg : ∀ i g V st V', J i g V → Mv (fun _ => False) (fun _ => none) g V (fun _ => none) { g with st := st } V' → (∀ b x, st b x → b < V'.heap.size) → J i { g with st := st } V')
    (h : At n l sz bs es J i z g a V) (hnl : noLoop sc = true) (hlo : ¬ LetsOut R) (hok : okCode P n sc c = true)
    (hW : ∀ tg, W P base sc ⟨slA l sz bs es z, fun _ => none, tg⟩ fun e σ => E e ∧ σ.sl 0 = .c (.v (yv l)) ∧ σ.sl 1 = .c (.elp [.sl sz bs es] 0) ∧ σ.sl 3 = .c (.v (.int .i64 z')))
    (hK : ∀ e g' a' w', E e → At n l sz bs es J i z' g' a' w' → R e.up a' w') : c.wpIn Fence.wide 0 P R a V := by
  refine W_soundR (r := none) (base := base) sc c _ _ R hnl hlo hok (hW g.tg) (fun e σ' g' a' w' hq hR => ?_) g a V h.rel
  obtain ⟨he, s0, s1, s3⟩ := hq
  exact hK e _ a' w' he (At.back hg h.j hR s0 s1 s3).1
end Go.Abs

namespace Go.Abs

variable {P : Program} {I : Init} {n base : Nat} {σ σ' : St} {g g' g1 g2 : Gh} {a a' : Act} {w w' w1 w2 : World} {e : Eff} {o : Oper}

theorem wrap_idA {a : Int} (h1 : -9223372036854775808 ≤ a) (h2 : a < 9223372036854775808) : IntKind.wrap .i64 a = a := by
  simp only [IntKind.wrap, IntKind.bits, IntKind.signed, Bool.true_and]
  by_cases h0 : 0 ≤ a
  · have h3 : a % (2 ^ 64 : Int) = a := Int.emod_eq_of_lt h0 (by omega)
    simp only [h3]
    split
    · rename_i h; simp at h; omega
    · rfl
  · have h3 : a % (2 ^ 64 : Int) = a + 2 ^ 64 := by
      rw [← Int.add_emod_right a (2 ^ 64)]
      exact Int.emod_eq_of_lt (by omega) (by omega)
    simp only [h3]
    split
    · omega
    · rename_i h; simp at h; omega
theorem RD_cell {c : Cell} {x : Value} (h : RD g w c x) : ∀ {g' : Gh} {w' : World} {y : Value}, RC g' w' c y → RD g' w' c y := by
  cases h with
  | v x hx => exact fun h => h
  | sl => exact fun h => h
theorem RC_data {c : Cell} {x : Value} (h : RD g w c x) : ∀ {g' : Gh} {w' : World} {y : Value}, RD g' w' c y → RC g' w' c y := by
  cases h with
  | v x hx => exact fun h => h
  | sl => exact fun h => h
theorem okL_two {s t : Nat} {args : List Operand} (h : okL args [.t s, .t t] = true) : args = [.tmp s, .tmp t] := by
  match args, h with
  | [x, y], h =>
    simp only [okL, Bool.and_eq_true] at h
    obtain ⟨h1, h2, _⟩ := h
    cases x <;> simp [okA] at h1
    cases y <;> simp [okA] at h2
    subst h1; subst h2; rfl
  | [], h => simp [okL] at h
  | [x], h => simp [okL] at h
  | x :: y :: z :: l, h => simp [okL] at h
theorem tmp_eval (s : Nat) : a.eval (.tmp s) = a.tmps.getD s undef := rfl

theorem iter_round {ty ety sz bs l b i : Nat} {es : List (List Cell)} {J : Nat → Gh → World → Prop} {z : Int} {V : World} {o3 : Array Oper} {Q : Exit → Act → World → Prop} (hJs : Rounds P l sz bs es b J)
    (hA : At n l sz bs es J i z g a V) (hi : i < es.length) (hz : (es.length : Int) - 1 - i = z) (h3 : okOps P n o3 o3.toList (it3a ty ety sz ++ [it3b, it3c]) = true) (h18 : 18 < n) (hlo : ¬ LetsOut Q)
    (hK : ∀ g a w, At n l sz bs es J (i + 1) z g a w → a.eval (.tmp 18) = .bool false → Q .normal a w) : wpOpsIn Fence.wide 0 P o3 Q (List.range 8) a V := by
  have hr8 : List.range 8 = List.range' 0 (it3a ty ety sz).length ++ [6, 7] := rfl
  rw [hr8]
  obtain ⟨ad, et, x, hl1, hl2⟩ := hA.t1
  obtain ⟨l', hl'⟩ : ∃ l', es[es.length - 1 - i]? = some l' := ⟨_, List.getElem?_eq_getElem (by omega)⟩
  obtain ⟨hlt, hl''⟩ := List.getElem?_eq_some_iff.1 hl'
  have hzn : z.toNat = es.length - 1 - i := by omega
  have hsl : l'.length = sz := by
    cases hl2 with
    | sl _ _ _ _ _ _ _ _ hs _ _ => exact hs l' (List.mem_of_getElem? hl')
  have hdat : ∀ d, d ∈ l' → ∃ x, RD g V d x := fun d hd => by
    obtain ⟨j, hj⟩ := List.mem_iff_getElem?.1 hd
    cases hl2 with
    | sl _ _ _ _ _ vs _ _ _ _ hd => exact ⟨_, hd _ _ _ _ hl' hj⟩
  refine textIn (r := none) (I := ⟨g, V, fun _ => False, []⟩) (base := 0) (σ := ⟨slA l sz bs es z, fun _ => none, g.tg⟩) (l := it3a ty ety sz) (post := [it3b, it3c]) (pre := []) (K := fun σ => σ.sl 0 = .c (.v (yv l)) ∧ σ.sl 1 = .c (.elp [.sl sz bs es] 0) ∧ σ.sl 3 = .c (.v (.int .i64 z)) ∧ σ.sl 11 = .c (.v (yv l)) ∧ σ.sl 12 = .c (.v (.int .i64 z)) ∧ σ.sl 16 = .agg l') h3 hlo (fun σ g2 a2 w2 hq hR => ?_) (by simp) ?_ hA.rel
  · obtain ⟨s0, s1, s3, s11, s12, s16⟩ := hq
    obtain ⟨hA2, hkp⟩ := At.back hJs.grow hA.j hR s0 s1 s3
    have e11 := RV2_v (opd_t hR s11)
    have e12 := RV2_v (opd_t hR s12)
    obtain ⟨vs, e16, hvs⟩ := opd_t hR s16
    have hk2 : Kp g2 w2 { g with st := g2.st } w2 := ⟨fun ad h => ⟨h, rfl⟩⟩
    have hvs' : RV1 { g with st := g2.st } w2 (.agg l') (.agg vs) := ⟨vs, rfl, hvs.imp fun d hd y hy => by
      obtain ⟨x, hx⟩ := hdat d hd
      exact RC_data hx ((RD_cell hx hy).mono hk2)⟩
    have hy := hJs.go i _ w2 l' (.agg vs) hA2.j hi hl' hvs'
    rw [wpOpsIn_cons]
    refine yield_op (l := l) (d := 17) (s := 11) (xs := [.t 12, .t 16]) h3 (by rfl) e11 (fun args ha => ?_) hy fun e w' he => ?_
    · rw [okL_two ha]
      simp only [List.map_cons, List.map_nil, tmp_eval, e12, e16]
      have : ((es.length - 1 - i : Nat) : Int) = z := by omega
      rw [this]
    · obtain ⟨rfl, g', hj, hkp', hle⟩ := he
      refine ⟨_, rfl, ?_⟩
      obtain ⟨hwok, _⟩ := hJs.see _ _ _ hj
      have gp : ∀ s, (a2.put (some 17) (.bool true)).tmps.getD s undef = if s = 17 then .bool true else a2.tmps.getD s undef := fun s => Act.getD_put (by rw [hA2.size]; omega) s
      have hA3 : At n l sz bs es J (i + 1) z g' (a2.put (some 17) (.bool true)) w' :=
        { j := hj, wok := hwok, size := by simp [Act.put, hA2.size], defs := hA2.defs
          t0 := by rw [gp, if_neg (by omega)]; exact hA2.t0
          t1 := by
            rw [gp, if_neg (by omega)]
            obtain ⟨ad, e, x, q1, q2⟩ := hA2.t1
            exact ⟨ad, e, x, hkp'.lies q1, q2.mono hkp'⟩
          t3 := by rw [gp, if_neg (by omega)]; exact hA2.t3 }
      have hR3 : Rel ⟨g', w', fun _ => False, []⟩ n ⟨upd (slA l sz bs es z) 17 (.c (.v (.bool true))), fun _ => none, g'.tg⟩ g' (a2.put (some 17) (.bool true)) w' :=
        { hA3.rel with
          slots := fun s => by
            simp only [upd]
            split
            · rename_i hs; subst hs; rw [gp, if_pos rfl]; exact fun _ => .v _ rfl
            · exact hA3.rel.slots s }
      have hr1 : ([7] : List Nat) = List.range' (it3a ty ety sz ++ [it3b]).length [it3c].length ++ [] := rfl
      rw [hr1]
      refine textIn (r := none) (I := ⟨g', w', fun _ => False, []⟩) (base := 0) (l := [it3c]) (post := []) (pre := it3a ty ety sz ++ [it3b]) (K := fun σ => σ.sl 0 = .c (.v (yv l)) ∧ σ.sl 1 = .c (.elp [.sl sz bs es] 0) ∧ σ.sl 3 = .c (.v (.int .i64 z)) ∧ σ.sl 18 = .c (.v (.bool false))) h3 hlo (fun σ g4 a4 w4 hq hR => ?_) (by simp) ?_ hR3
      · obtain ⟨s0, s1, s3, s18⟩ := hq
        exact hK _ _ _ (At.back hJs.grow hj hR s0 s1 s3).1 (RV2_v (opd_t hR s18))
      · unfold it3c
        simp [slA, upd]
  · unfold it3a
    simp [slA, hzn, hl', hl'', hsl]
    exact ⟨⟨by omega, by omega⟩, by rw [← hsl, List.take_length]⟩

theorem iter_of {f ty ety sz bs : Nat} (hok : okIter P f n ty ety sz = true) : BackIter P f sz bs := by
  unfold okIter at hok
  split at hok
  case h_2 => cases hok
  rename_i fn hf
  split at hok
  case h_2 => cases hok
  rename_i x0 x1 id3 o3 x2 hb
  simp only [Bool.and_eq_true, decide_eq_true_eq, Bool.not_eq_true'] at hok
  obtain ⟨⟨⟨⟨⟨⟨⟨hn, h0⟩, h1⟩, h2⟩, h3⟩, hres⟩, h18⟩, hname⟩ := hok
  refine ⟨fun args w => ?_, fun l b es J g W hlen hJs hJ0 => ?_⟩
  · have hname : ¬ fn.name = "runtime.NumGoroutine" := by simpa using hname
    simp [callFunc, hf, hname, hb]
  refine callsIn_of_wp_marks hf hb trivial ?_
  have hno : ¬ LetsOut (bodyPostM Fence.wide 0 P fn fun e W' => (∃ v, e = .returned v) ∧ ∃ g', J es.length g' W') := fun ⟨a, w, hq⟩ => by
    obtain ⟨⟨v, h⟩, _⟩ := hq; cases h
  have hfin : ∀ g a w, At n l sz bs es J es.length (-1) g a w → bodyPostM Fence.wide 0 P fn (fun e W' => (∃ v, e = .returned v) ∧ ∃ g', J es.length g' W') .normal a w := fun g a w h => by
    show LeavesInM _ _ _ _ _ _ a.defers _ _
    rw [h.defs]
    have hr0 : fn.results = #[] := by simpa using hres
    refine ⟨.tuple #[], ?_, ⟨_, rfl⟩, g, h.j⟩
    simp [results, hr0]
  obtain ⟨hwok, x, hx1, hx2⟩ := hJs.see 0 g W hJ0
  have hR0 := rel0 (n := n) (args := [.c (.v (yv l)), .c (.elp [.sl sz bs es] 0)]) (m := 2) (N := fn.ntmps) (vs := #[yv l, .pointer (some ⟨b, 0, none⟩)]) (mn := fun _ => False) (g := g) (w := W) rfl (by omega) hn hwok
    ⟨fun _ => .v _ rfl, fun _ => RC_elp hx1 hx2, trivial⟩
  let cl : Code := .loop (.seq x1 (.seq (.block 1 (.seq (.region id3 o3 false) (.cond (.tmp 18) .ret .skip))) x2))
  have hloop : ∀ g a V, At n l sz bs es J 0 (es.length - 1) g a V → (Code.block 0 cl).wpIn Fence.wide 0 P (bodyPostM Fence.wide 0 P fn fun e W' => (∃ v, e = .returned v) ∧ ∃ g', J es.length g' W') a V := by
    intro g a V h0
    refine wpIn_block ?_
    refine wpIn_loop_ghost (fun m a V => ∃ i g, i + m = es.length ∧ At n l sz bs es J i ((es.length : Int) - 1 - i) g a V) es.length ⟨0, g, by omega, by simpa using h0⟩ ?_
    rintro m a V ⟨i, g, hm, hA⟩
    generalize hz : (es.length : Int) - 1 - i = z at hA
    refine wpIn_seq (At.piece (base := 0) (z' := z) (sc := it1) (E := fun e => if 0 ≤ z then e = .normal else e = .exit 0) hJs.grow hA rfl (fun ⟨a, w, h⟩ => hno ⟨a, w, h⟩) h1 (fun tg => ?_) fun e g1 a1 w1 he hA1 => ?_)
    · unfold it1
      simp [slA]
    · by_cases hi : i < es.length
      case neg =>
        rw [if_neg (by omega)] at he
        subst he
        have : i = es.length := by omega
        subst this
        have hz' : z = -1 := by omega
        subst hz'
        exact hfin _ _ _ hA1
      case pos =>
        rw [if_pos (by omega)] at he
        subst he
        refine wpIn_seq (wpIn_block (wpIn_seq (wpIn_region ?_)))
        have hsz : o3.size = 8 := by have := okOps_len h3; simpa [it3a] using this
        rw [hsz]
        refine iter_round hJs hA1 hi hz h3 h18 (fun ⟨a, w, h⟩ => hno ⟨a, w, h⟩) fun g2 a2 w2 hA2 h18 => ?_
        refine wpIn_cond_false h18 (wpIn_skip ?_)
        refine At.piece (base := 0) (z' := z - 1) (sc := it2) (E := fun e => e = .normal) hJs.grow hA2 rfl (fun ⟨a, w, h⟩ => hno ⟨a, w, h⟩) h2 (fun tg => ?_) fun e g3 a3 w3 he hA3 => ?_
        · have wl : IntKind.wrap .i64 (z - 1) = z - 1 := wrap_idA (by omega) (by omega)
          unfold it2
          simp [slA, wl]
        · subst he
          refine ⟨m - 1, by omega, i + 1, g3, by omega, ?_⟩
          have : (es.length : Int) - 1 - ((i + 1 : Nat) : Int) = z - 1 := by omega
          rw [this]
          exact hA3
  refine wpIn_seq (W_soundR (r := none) (base := 0) (it0 ty) x0 _ (only fun σ => σ.sl 0 = .c (.v (yv l)) ∧ σ.sl 1 = .c (.elp [.sl sz bs es] 0) ∧ σ.sl 3 = .c (.v (.int .i64 ((es.length : Int) - 1)))) (Exit.then ((Code.block 0 cl).wpIn Fence.wide 0 P _) _) rfl (fun ⟨a, w, h⟩ => hno ⟨a, w, h⟩) h0 ?_ (fun e σ' g' a' w' hq hR => ?_) g _ W hR0)
  · have wl : IntKind.wrap .i64 ((es.length : Int) - 1) = (es.length : Int) - 1 := wrap_idA (by omega) (by omega)
    unfold it0
    simp [slotsOf, only, wl]
  · cases e with
    | normal =>
      obtain ⟨s0, s1, s3⟩ := hq
      exact hloop _ _ _ (At.back hJs.grow hJ0 hR s0 s1 s3).1
    | exit id => exact hq.elim
    | ret => exact hq.elim
end Go.Abs

namespace Go.Abs

variable {P : Program} {I : Init} {n base : Nat} {σ σ' : St} {g g' g1 g2 : Gh} {a a' : Act} {w w' w1 w2 : World} {e : Eff} {o : Oper}

/-! ### a function that hands back such an iterator -/
def onBk (fB sz bs s : Nat) (es : List (List Cell)) : SEx → St → Prop
  | .exit _, _ => False
  | _, σ => ∃ k ty, σ.ob k = some (.box ty [.sl sz bs es]) ∧ σ.sl s = .c (.clo fB [] [(k, σ.tg k)])
@[simp] theorem onBk_n {fB sz bs s : Nat} {es : List (List Cell)} : onBk fB sz bs s es .normal σ = ∃ k ty, σ.ob k = some (.box ty [.sl sz bs es]) ∧ σ.sl s = .c (.clo fB [] [(k, σ.tg k)]) := rfl
@[simp] theorem onBk_r {fB sz bs s : Nat} {es : List (List Cell)} : onBk fB sz bs s es .ret σ = ∃ k ty, σ.ob k = some (.box ty [.sl sz bs es]) ∧ σ.sl s = .c (.clo fB [] [(k, σ.tg k)]) := rfl

theorem fn_bk {f m fB sz bs s : Nat} {es : List (List Cell)} {args : List AV} {sc : SCode} (hok : okFn P f n sc [.t s] m = true) (hm : args.length = m)
    (hW : ∀ tg, W P base sc ⟨slotsOf args, fun _ => none, tg⟩ (onBk fB sz bs s es)) : Fn P f args (.c (.bk fB sz bs es)) := by
  unfold okFn at hok
  split at hok
  case h_2 => cases hok
  rename_i fn hf
  split at hok
  case h_2 => cases hok
  rename_i c hb
  simp only [Bool.and_eq_true, decide_eq_true_eq, Bool.not_eq_true'] at hok
  obtain ⟨⟨⟨⟨hn, hmn⟩, hcode⟩, hres⟩, hname⟩ := hok
  refine ⟨fun args w => ?_, fun g w vs hwok hargs hins => ?_⟩
  · have hname : ¬ fn.name = "runtime.NumGoroutine" := by simpa using hname
    simp [callFunc, hf, hname, hb]
  · refine calls_of_wp hf hb ?_
    have hno : ∀ b, ¬ mineOf g [] b := by rintro b ⟨k, t, q, h, _⟩; simp at h
    have hR0 := rel0 (n := n) (N := fn.ntmps) (mn := mineOf g []) hm hmn hn hwok hargs
    have hdone : ∀ σ1 g1 a w', (∃ k ty, σ1.ob k = some (.box ty [.sl sz bs es]) ∧ σ1.sl s = .c (.clo fB [] [(k, σ1.tg k)])) → Rel ⟨g, w, mineOf g [], []⟩ n σ1 g1 a w' →
        a.defers = [] ∧ ∃ v, (results fn a.tmps).run P w' = .ok v w' ∧ ∃ v' g'', Ending.returned v = .returned v' ∧ Post g w [] g'' w' (.c (.bk fB sz bs es)) v' [] := by
      rintro σ1 g1 a w' ⟨k, ty, hob, hsl⟩ hR
      refine ⟨hR.defs, ?_⟩
      obtain ⟨vs, hblk, hvs, hst⟩ := hR.obs k _ hob
      obtain ⟨v1, v2, hv, r1, r2⟩ := opd_t hR hsl (by simp)
      have e1 : v1 = #[] := by
        have := r1.length
        simp at this
        exact Array.eq_empty_of_size_eq_zero this.symm
      have e2 : v2 = #[.pointer (some ⟨g1.blk k, 0, none⟩)] := by
        match h : v2.toList, r2 with
        | [y], r2 =>
          have hy := r2.1.2.2 (by simp [hR.tags])
          have : v2 = #[y] := by rw [← Array.toArray_toList (xs := v2), h]
          rw [this, hy]; rfl
        | [], r2 => exact r2.elim
        | _ :: _ :: _, r2 => exact r2.2.elim
      obtain ⟨x, hx, hxd⟩ : ∃ x, vs = #[x] ∧ RD g1 w' (.sl sz bs es) x := by
        match h : vs.toList, hvs with
        | [x], hvs => exact ⟨x, by rw [← Array.toArray_toList (xs := vs), h], hvs.1⟩
        | [], hvs => exact hvs.elim
        | _ :: _ :: _, hvs => exact hvs.2.elim
      let g2 : Gh := { g1 with st := fun b o => g1.st b o ∨ (b = g1.blk k ∧ o = 0) }
      have hkp : Kp g1 w' g2 w' := ⟨fun ad h => ⟨.inl h, rfl⟩⟩
      have hin : g1.blk k < w'.heap.size := (Array.getElem?_eq_some_iff.1 hblk).1
      have hrun : (results fn a.tmps).run P w' = .ok (.func (.func fB) #[] #[.pointer (some ⟨g1.blk k, 0, none⟩)]) w' := by
        have hrs : fn.results = #[.tmp s] := by
          match h : fn.results.toList with
          | [] => rw [h] at hres; simp [okR] at hres
          | [.tmp s'] =>
            rw [h] at hres
            simp [okR] at hres
            rw [← Array.toArray_toList (xs := fn.results), h, hres]
          | [.cell _ _] => rw [h] at hres; simp [okR] at hres
          | .tmp s' :: y :: l => rw [h] at hres; simp [okR] at hres
          | .cell _ _ :: y :: l => rw [h] at hres; simp [okR] at hres
        rw [e1, e2] at hv
        have hv' : a.tmps[s]?.getD undef = .func (.func fB) #[] #[.pointer (some ⟨g1.blk k, 0, none⟩)] := by rw [← Array.getD_eq_getD_getElem?]; exact hv
        simp [results, hrs, hv']
      refine ⟨_, hrun, _, g2, rfl,
        { res := fun _ => ⟨g1.blk k, x, rfl, ⟨.inr ⟨rfl, rfl⟩, ?_⟩, hxd.mono hkp⟩
          obs := ⟨fun k t q h => by simp at h, fun k k' t t' q q' h => by simp at h⟩
          kp := hR.kp.trans hkp, wok := fun b o h => by
            rcases h with h | h
            · exact hR.wok b o h
            · rw [h.1]; exact hin
          os := hR.os, tape := hR.tape, out := hR.out, grow := hR.grow
          frame := fun b hb hm => by
            have hf := hR.frame b hb hm
            refine ⟨hf.1, fun o => ⟨fun h => ?_, fun h => .inl ((hf.2 o).2 h)⟩⟩
            rcases h with h | h
            · exact (hf.2 o).1 h
            · exfalso
              rcases hR.loc k _ hob trivial with h' | h'
              · exact hno _ h'
              · have hb' : b < w.heap.size := hb
                have h'' : w.heap.size ≤ g1.blk k := h'
                rw [h.1] at hb'
                omega
          loc := fun k t q h => by simp at h
          box := fun k t _ ⟨q, h⟩ => by simp at h }⟩
      rw [cell_blk hblk, hx]; rfl
    refine W_sound (base := base) sc c _ _ _ hcode (hW g.tg) (fun e σ' g' a w' hq hR' => ?_) g _ w hR0
    cases e with
    | normal => exact hdone σ' g' a w' hq hR'
    | ret => exact hdone σ' g' a w' hq hR'
    | exit id => exact hq.elim
end Go.Abs
