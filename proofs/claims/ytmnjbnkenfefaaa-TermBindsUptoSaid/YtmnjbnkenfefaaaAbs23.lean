/- THIS TEXT PROVES A PART OF A CALCULUS THAT TELLS WHAT A LOADED GO FUNCTION DOES WITHOUT NAMING MEMORY: each rule is proved against the machine, for every program and every world; its conditions stand in each theorem. -/
import Derived.Test.YtmnjbnkenfefaaaAbs22
set_option linter.unusedVariables false
set_option linter.unusedSimpArgs false
namespace Go.Abs

variable {P : Program} {base : Nat} {σ : St} {key : Nat} {ρ : SArg → AV} {β : Bool}

@[simp] theorem ap_pure (d : Nat) (v : AV) : σ.ap (some d) (Eff.pure v) = σ.set d v := rfl
@[simp] theorem ap_look (d : Nat) (v : AV) (l : List Nat) : σ.ap (some d) (Eff.look v l) = σ.set d v := rfl
@[simp] theorem pure_val (v : AV) : (Eff.pure v).val = v := rfl
@[simp] theorem pure_pur (v : AV) : (Eff.pure v).pur = [] := rfl
@[simp] theorem pure_put (v : AV) : (Eff.pure v).put = [] := rfl
@[simp] theorem pure_rd (v : AV) : (Eff.pure v).rd = [] := rfl
@[simp] theorem look_val (v : AV) (l : List Nat) : (Eff.look v l).val = v := rfl
@[simp] theorem look_pur (v : AV) (l : List Nat) : (Eff.look v l).pur = [] := rfl
@[simp] theorem look_put (v : AV) (l : List Nat) : (Eff.look v l).put = [] := rfl
@[simp] theorem look_rd (v : AV) (l : List Nat) : (Eff.look v l).rd = l := rfl

/-! ### cells -/
@[simp] theorem cellsOf_agg (cs : List Cell) : cellsOf (.agg cs) = some cs := rfl
@[simp] theorem cellsOf_v (v : Value) : cellsOf (.c (.v v)) = some [.v v] := rfl
@[simp] theorem cellsOf_sl (sz bs : Nat) (es : List (List Cell)) : cellsOf (.c (.sl sz bs es)) = some [.sl sz bs es] := rfl
@[simp] theorem cellsOf_cap (sz bs : Nat) (es : List (List Cell)) : cellsOf (.c (.cap sz bs es)) = some [.cap sz bs es] := rfl
@[simp] theorem cellsOf_own (k t : Nat) : cellsOf (.c (.own k t)) = some [.own k t] := rfl
@[simp] theorem cellsOf_ref (k t off : Nat) : cellsOf (.c (.ref k t off)) = some [.ref k t off] := rfl
@[simp] theorem cellsOf_clo (f : Nat) (a b : List (Nat × Nat)) : cellsOf (.c (.clo f a b)) = some [.clo f a b] := rfl
@[simp] theorem putC_nil (cs xs : List Cell) : putC cs 0 xs = xs ++ cs.drop xs.length := by simp [putC]
@[simp] theorem putC_succ (c : Cell) (cs xs : List Cell) (n : Nat) : putC (c :: cs) (n + 1) xs = c :: putC cs n xs := by simp [putC, Nat.add_right_comm]
@[simp] theorem putC_1 (c : Cell) (cs xs : List Cell) : putC (c :: cs) 1 xs = c :: putC cs 0 xs := putC_succ c cs xs 0
@[simp] theorem putC_2 (c d : Cell) (cs xs : List Cell) : putC (c :: d :: cs) 2 xs = c :: d :: putC cs 0 xs := by rw [putC_succ c _ xs 1, putC_1]
@[simp] theorem putC_3 (c d e : Cell) (cs xs : List Cell) : putC (c :: d :: e :: cs) 3 xs = c :: d :: e :: putC cs 0 xs := by rw [putC_succ c _ xs 2, putC_2]
@[simp] theorem putC_4 (c d e f : Cell) (cs xs : List Cell) : putC (c :: d :: e :: f :: cs) 4 xs = c :: d :: e :: f :: putC cs 0 xs := by rw [putC_succ c _ xs 3, putC_3]
@[simp] theorem fillC_nil (cs : List Cell) : fillC cs [] = cs := rfl
@[simp] theorem fillC_cons (cs xs : List Cell) (off : Nat) (r : List (Nat × List Cell)) : fillC cs ((off, xs) :: r) = fillC (putC cs off xs) r := rfl
@[simp] theorem toD_v (v : Value) : toD σ (.v v) = .v v := rfl
@[simp] theorem toD_sl (sz bs : Nat) (es : List (List Cell)) : toD σ (.sl sz bs es) = .sl sz bs es := rfl
@[simp] theorem toD_cap (sz bs : Nat) (es : List (List Cell)) : toD σ (.cap sz bs es) = .sl sz bs es := rfl
@[simp] theorem toD_ref (k t off : Nat) : toD σ (.ref k t off) = .ref k t off := rfl
@[simp] theorem toD_clo (f : Nat) (a b : List (Nat × Nat)) : toD σ (.clo f a b) = .clo f a b := rfl
def ownD (k t : Nat) : Option Obj → Cell
  | some (.row _ sz bs es) => .sl sz bs es
  | _ => .own k t
@[simp] theorem toD_own (k t : Nat) : toD σ (.own k t) = if t = σ.tg k then ownD k t (σ.ob k) else .own k t := rfl
@[simp] theorem ownD_row (k t ty sz bs : Nat) (es : List (List Cell)) : ownD k t (some (.row ty sz bs es)) = .sl sz bs es := rfl
@[simp] theorem ownD_mrow (k t ty sz bs : Nat) (es : List (List Cell)) : ownD k t (some (.mrow ty sz bs es)) = .own k t := rfl
@[simp] theorem toD2_c (x : Cell) : toD2 σ (.c x) = .c (toD σ x) := rfl
@[simp] theorem toD2_agg (x : List Cell) : toD2 σ (.agg x) = .agg (x.map (toD σ)) := rfl
@[simp] theorem toD2_tup (x : List AV) : toD2 σ (.tup x) = .tup x := rfl
@[simp] theorem plain_v (v : Value) : Cell.plain (.v v) = .v v := rfl
@[simp] theorem plain_cap (sz bs : Nat) (es : List (List Cell)) : Cell.plain (.cap sz bs es) = .sl sz bs es := rfl
@[simp] theorem isD_v (v : Value) : Cell.isD (.v v) = true := rfl
@[simp] theorem isD_sl (sz bs : Nat) (es : List (List Cell)) : Cell.isD (.sl sz bs es) = true := rfl

/-! ### simple operations -/
@[simp] theorem ev1_mv (x : SArg) : ev1 key ρ σ (.mv x) = some (.pure (un (ρ x))) := rfl
@[simp] theorem cond_mv (x : SArg) : cond β ρ σ (.mv x) = gok β (ρ x) := rfl
def pickE (c x y : AV) : Option Eff := match c with
  | .c (.v (.bool t)) => some (.pure (pickv t x y))
  | _ => none
@[simp] theorem ev1_pick (c a b : SArg) : ev1 key ρ σ (.pick c a b) = pickE (un (ρ c)) (un (ρ a)) (un (ρ b)) := by
  rfl
@[simp] theorem pickE_b (t : Bool) (x y : AV) : pickE (.c (.v (.bool t))) x y = some (.pure (pickv t x y)) := rfl
def pickC (β : Bool) (c x y : AV) : Prop := match c with
  | .c (.v (.bool t)) => gok (β && t) x ∧ gok (β && !t) y
  | _ => True
@[simp] theorem cond_pick (c a b : SArg) : cond β ρ σ (.pick c a b) = (gok β (ρ c) ∧ pickC β (un (ρ c)) (ρ a) (ρ b)) := by
  rfl
@[simp] theorem pickC_b (t : Bool) (x y : AV) : pickC β (.c (.v (.bool t))) x y = (gok (β && t) x ∧ gok (β && !t) y) := rfl
@[simp] theorem pickv_b (t p q : Bool) : pickv t (.c (.v (.bool p))) (.c (.v (.bool q))) = .c (.v (.bool (bif t then p else q))) := rfl
def boxE (key t ty : Nat) : Option (List Cell) → Option Eff
  | some cs => some ⟨.c (.ref key (t + 1) 0), [key], [(key, .box ty cs)], keysCs cs⟩
  | none => none
@[simp] theorem ev1_box (ty : Nat) (x : SArg) : ev1 key ρ σ (.box ty x) = boxE key (σ.tg key) ty (cellsOf (un (ρ x))) := by
  simp only [ev1]; unfold boxE; cases cellsOf (un (ρ x)) <;> rfl
@[simp] theorem boxE_some (t ty : Nat) (cs : List Cell) : boxE key t ty (some cs) = some ⟨.c (.ref key (t + 1) 0), [key], [(key, .box ty cs)], keysCs cs⟩ := rfl
@[simp] theorem cond_box (ty : Nat) (x : SArg) : cond β ρ σ (.box ty x) = gok β (ρ x) := rfl
@[simp] theorem ev1_alloc (ty : Nat) (zs : List Cell) : ev1 key ρ σ (.alloc ty zs) = some ⟨.c (.ref key (σ.tg key + 1) 0), [key], [(key, .box ty zs)], []⟩ := rfl
@[simp] theorem cond_alloc (ty : Nat) (zs : List Cell) : cond β ρ σ (.alloc ty zs) = True := rfl
def buildE (zs : List Cell) : Option (List (Nat × List Cell)) → Option Eff
  | some l => some (.pure (.agg (fillC zs l)))
  | none => none
@[simp] theorem ev1_build (ty : Nat) (zs : List Cell) (ps : List (Nat × Nat × Nat × SArg)) : ev1 key ρ σ (.build ty zs ps) = buildE zs (partCs ρ ps) := by
  simp only [ev1]; unfold buildE; cases partCs ρ ps <;> rfl
@[simp] theorem buildE_some (zs : List Cell) (l : List (Nat × List Cell)) : buildE zs (some l) = some (.pure (.agg (fillC zs l))) := rfl
def partK (off : Nat) : Option (List Cell) → Option (List (Nat × List Cell)) → Option (List (Nat × List Cell))
  | some cs, some l => some ((off, cs) :: l)
  | _, _ => none
@[simp] theorem partCs_nil : partCs ρ [] = some [] := rfl
@[simp] theorem partCs_cons (i off m : Nat) (x : SArg) (r : List (Nat × Nat × Nat × SArg)) : partCs ρ ((i, off, m, x) :: r) = partK off (cellsOf (un (ρ x))) (partCs ρ r) := by
  simp only [partCs]; unfold partK; cases cellsOf (un (ρ x)) <;> cases partCs ρ r <;> rfl
@[simp] theorem partK_some (off : Nat) (cs : List Cell) (l : List (Nat × List Cell)) : partK off (some cs) (some l) = some ((off, cs) :: l) := rfl
def partC1 (zs : List Cell) (off m : Nat) : Option (List Cell) → Prop
  | some cs => cs.length = m ∧ off + m ≤ zs.length
  | none => True
def partC (β : Bool) (ρ : SArg → AV) (zs : List Cell) : List (Nat × Nat × Nat × SArg) → Prop
  | [] => True
  | p :: r => gok β (ρ p.2.2.2) ∧ partC1 zs p.2.1 p.2.2.1 (cellsOf (un (ρ p.2.2.2))) ∧ partC β ρ zs r
theorem partC_spec {zs : List Cell} : ∀ {ps : List (Nat × Nat × Nat × SArg)}, partC β ρ zs ps → (∀ p, p ∈ ps → gok β (ρ p.2.2.2)) ∧ ∀ p, p ∈ ps → ∀ cs, cellsOf (un (ρ p.2.2.2)) = some cs → cs.length = p.2.2.1 ∧ p.2.1 + p.2.2.1 ≤ zs.length
  | [], _ => ⟨by simp, by simp⟩
  | p :: r, h => by
    obtain ⟨h1, h2, h3⟩ := h
    obtain ⟨h4, h5⟩ := partC_spec h3
    refine ⟨fun q hq => ?_, fun q hq cs hcs => ?_⟩
    · rcases List.mem_cons.1 hq with rfl | hq
      · exact h1
      · exact h4 q hq
    · rcases List.mem_cons.1 hq with rfl | hq
      · rw [hcs] at h2; exact h2
      · exact h5 q hq cs hcs
theorem partC_of {zs : List Cell} : ∀ {ps : List (Nat × Nat × Nat × SArg)}, (∀ p, p ∈ ps → gok β (ρ p.2.2.2)) → (∀ p, p ∈ ps → ∀ cs, cellsOf (un (ρ p.2.2.2)) = some cs → cs.length = p.2.2.1 ∧ p.2.1 + p.2.2.1 ≤ zs.length) → partC β ρ zs ps
  | [], _, _ => trivial
  | p :: r, h1, h2 => by
    refine ⟨h1 p (by simp), ?_, partC_of (fun q hq => h1 q (by simp [hq])) fun q hq => h2 q (by simp [hq])⟩
    cases hc : cellsOf (un (ρ p.2.2.2)) with
    | none => trivial
    | some cs => exact h2 p (by simp) cs hc
@[simp] theorem cond_build (ty : Nat) (zs : List Cell) (ps : List (Nat × Nat × Nat × SArg)) : cond β ρ σ (.build ty zs ps) = partC β ρ zs ps := propext ⟨fun h => partC_of h.1 h.2, fun h => partC_spec h⟩
@[simp] theorem partC_nil (zs : List Cell) : partC β ρ zs [] = True := rfl
@[simp] theorem partC_cons (zs : List Cell) (i off m : Nat) (x : SArg) (r : List (Nat × Nat × Nat × SArg)) : partC β ρ zs ((i, off, m, x) :: r) = (gok β (ρ x) ∧ partC1 zs off m (cellsOf (un (ρ x))) ∧ partC β ρ zs r) := rfl
@[simp] theorem partC1_some (zs cs : List Cell) (off m : Nat) : partC1 zs off m (some cs) = (cs.length = m ∧ off + m ≤ zs.length) := rfl

/-! ### loads -/
def ld1C (k : Nat) : Option Cell → Option Eff
  | some c => some (.look (.c c) [k])
  | none => none
def ld1O (k off : Nat) : Option Obj → Option Eff
  | some (.box _ cs) => ld1C k cs[off]?
  | _ => none
def ldnO (k off n : Nat) : Option Obj → Option Eff
  | some (.box _ cs) => if off + n ≤ cs.length then some (.look (.agg ((cs.drop off).take n)) [k]) else none
  | _ => none
@[simp] theorem ev1_ld1 (ty : Nat) (x : SArg) : ev1 key ρ σ (.ld1 ty x) = loadAt σ true 0 (un (ρ x)) := rfl
@[simp] theorem ev1_ldn (ty n : Nat) (x : SArg) : ev1 key ρ σ (.ldn ty n x) = loadAt σ false n (un (ρ x)) := rfl
@[simp] theorem cond_ld1 (ty : Nat) (x : SArg) : cond β ρ σ (.ld1 ty x) = gok β (ρ x) := rfl
@[simp] theorem cond_ldn (ty n : Nat) (x : SArg) : cond β ρ σ (.ldn ty n x) = gok β (ρ x) := rfl
@[simp] theorem ld1C_some (k : Nat) (c : Cell) : ld1C k (some c) = some (.look (.c c) [k]) := rfl
@[simp] theorem ld1O_box (k off ty : Nat) (cs : List Cell) : ld1O k off (some (.box ty cs)) = ld1C k cs[off]? := rfl
@[simp] theorem ldnO_box (k off n ty : Nat) (cs : List Cell) : ldnO k off n (some (.box ty cs)) = if off + n ≤ cs.length then some (.look (.agg ((cs.drop off).take n)) [k]) else none := rfl
@[simp] theorem loadAt_ref1 (m k t off : Nat) : loadAt σ true m (.c (.ref k t off)) = if t = σ.tg k then ld1O k off (σ.ob k) else none := by
  simp only [loadAt]; split
  · unfold ld1O; split
    · rename_i e; rw [e]; simp only [if_true]; unfold ld1C; split <;> simp_all
    · rename_i h; split
      · rename_i e; exact absurd e (h _ _)
      · rfl
  · rfl
@[simp] theorem loadAt_refn (m k t off : Nat) : loadAt σ false m (.c (.ref k t off)) = if t = σ.tg k then ldnO k off m (σ.ob k) else none := by
  simp only [loadAt]; split
  · unfold ldnO; split
    · rename_i e; rw [e]; simp
    · rename_i h; split
      · rename_i e; exact absurd e (h _ _)
      · rfl
  · rfl
def ld1P : Option Cell → Option Eff
  | some c => some (.pure (.c c))
  | none => none
@[simp] theorem ld1P_some (c : Cell) : ld1P (some c) = some (.pure (.c c)) := rfl
@[simp] theorem loadAt_elp1 (m j : Nat) (cs : List Cell) : loadAt σ true m (.c (.elp cs j)) = ld1P cs[j]? := by
  simp only [loadAt, if_true]; unfold ld1P; split <;> simp_all
@[simp] theorem loadAt_elpn (m j : Nat) (cs : List Cell) : loadAt σ false m (.c (.elp cs j)) = if j + m ≤ cs.length then some (.pure (.agg ((cs.drop j).take m))) else none := by
  simp [loadAt]
def elwO (sz i : Nat) : Option Obj → Option (List Cell)
  | some (.mrow _ sz' _ es) => if sz = sz' then es[i]? else none
  | _ => none
def ld1W (k j : Nat) : Option (List Cell) → Option Eff
  | some cs => ld1C k cs[j]?
  | none => none
def ldnW (k j n : Nat) : Option (List Cell) → Option Eff
  | some cs => if j + n ≤ cs.length then some (.look (.agg ((cs.drop j).take n)) [k]) else none
  | none => none
@[simp] theorem elwO_mrow (sz i ty sz' bs : Nat) (es : List (List Cell)) : elwO sz i (some (.mrow ty sz' bs es)) = if sz = sz' then es[i]? else none := rfl
@[simp] theorem ld1W_some (k j : Nat) (cs : List Cell) : ld1W k j (some cs) = ld1C k cs[j]? := rfl
@[simp] theorem ldnW_some (k j n : Nat) (cs : List Cell) : ldnW k j n (some cs) = if j + n ≤ cs.length then some (.look (.agg ((cs.drop j).take n)) [k]) else none := rfl
@[simp] theorem loadAt_elw1 (m k t sz i j : Nat) : loadAt σ true m (.c (.elw k t sz i j)) = if t = σ.tg k then ld1W k j (elwO sz i (σ.ob k)) else none := by
  simp only [loadAt]; split
  · unfold elwO; split
    · rename_i e; rw [e]; simp only [if_true]
      split
      · split
        · rename_i e1; simp only [e1, ld1W]; unfold ld1C; split <;> simp_all
        · rename_i e1; simp only [e1, ld1W]
      · rfl
    · rename_i h; split
      · rename_i e; exact absurd e (h _ _ _ _)
      · rfl
  · rfl
@[simp] theorem loadAt_elwn (m k t sz i j : Nat) : loadAt σ false m (.c (.elw k t sz i j)) = if t = σ.tg k then ldnW k j m (elwO sz i (σ.ob k)) else none := by
  simp only [loadAt]; split
  · unfold elwO; split
    · rename_i e; rw [e]; simp only [Bool.false_eq_true, if_false]
      split
      · split
        · rename_i e1; simp only [e1, ldnW]
        · rename_i e1; simp only [e1, ldnW]
      · rfl
    · rename_i h; split
      · rename_i e; exact absurd e (h _ _ _ _)
      · rfl
  · rfl

/-! ### stores -/
def stE (σ : St) (n : Nat) (x : AV) : Option (List Cell) → Option Eff
  | some cs => storeAt σ n cs x
  | none => none
@[simp] theorem stE_some (n : Nat) (x : AV) (cs : List Cell) : stE σ n x (some cs) = storeAt σ n cs x := rfl
@[simp] theorem ev1_st1 (ty : Nat) (x v : SArg) : ev1 key ρ σ (.st1 ty x v) = stE σ 1 (un (ρ x)) (cellsOf (un (ρ v))) := by
  simp only [ev1]; unfold stE; cases cellsOf (un (ρ v)) <;> rfl
@[simp] theorem ev1_stn (ty n : Nat) (x v : SArg) : ev1 key ρ σ (.stn ty n x v) = stE σ n (un (ρ x)) (cellsOf (un (ρ v))) := by
  simp only [ev1]; unfold stE; cases cellsOf (un (ρ v)) <;> rfl
@[simp] theorem cond_st1 (ty : Nat) (x v : SArg) : cond β ρ σ (.st1 ty x v) = (gok β (ρ x) ∧ gok β (ρ v)) := rfl
@[simp] theorem cond_stn (ty n : Nat) (x v : SArg) : cond β ρ σ (.stn ty n x v) = (gok β (ρ x) ∧ gok β (ρ v)) := rfl
def stO (k off n : Nat) (xs : List Cell) : Option Obj → Option Eff
  | some (.box ty cs) => if xs.length = n ∧ off + n ≤ cs.length then some ⟨.tup [], [], [(k, .box ty (putC cs off xs))], k :: keysCs xs⟩ else none
  | _ => none
@[simp] theorem stO_box (k off n ty : Nat) (xs cs : List Cell) : stO k off n xs (some (.box ty cs)) = if xs.length = n ∧ off + n ≤ cs.length then some ⟨.tup [], [], [(k, .box ty (putC cs off xs))], k :: keysCs xs⟩ else none := rfl
@[simp] theorem storeAt_ref (n k t off : Nat) (xs : List Cell) : storeAt σ n xs (.c (.ref k t off)) = if t = σ.tg k then stO k off n xs (σ.ob k) else none := by
  simp only [storeAt]; split
  · unfold stO; split
    · rename_i e; rw [e]
    · rename_i h; split
      · rename_i e; exact absurd e (h _ _)
      · rfl
  · rfl
def stW2 (k ty sz bs i j n : Nat) (xs xd : List Cell) (es : List (List Cell)) : Option (List Cell) → Option Eff
  | some cs => if j + n ≤ cs.length then some ⟨.tup [], [], [(k, .mrow ty sz bs (es.set i (putC cs j xd)))], k :: keysCs xs⟩ else none
  | none => none
def stW (k sz i j n : Nat) (xs xd : List Cell) : Option Obj → Option Eff
  | some (.mrow ty sz' bs es) => if sz = sz' ∧ xs.length = n ∧ xd.all Cell.isD = true then stW2 k ty sz bs i j n xs xd es es[i]? else none
  | _ => none
@[simp] theorem stW2_some (k ty sz bs i j n : Nat) (xs xd cs : List Cell) (es : List (List Cell)) : stW2 k ty sz bs i j n xs xd es (some cs) = if j + n ≤ cs.length then some ⟨.tup [], [], [(k, .mrow ty sz bs (es.set i (putC cs j xd)))], k :: keysCs xs⟩ else none := rfl
@[simp] theorem stW_mrow (k sz i j n ty sz' bs : Nat) (xs xd : List Cell) (es : List (List Cell)) : stW k sz i j n xs xd (some (.mrow ty sz' bs es)) = if sz = sz' ∧ xs.length = n ∧ xd.all Cell.isD = true then stW2 k ty sz bs i j n xs xd es es[i]? else none := rfl
@[simp] theorem storeAt_elw (n k t sz i j : Nat) (xs : List Cell) : storeAt σ n xs (.c (.elw k t sz i j)) = if t = σ.tg k then stW k sz i j n xs (xs.map (toD σ)) (σ.ob k) else none := by
  simp only [storeAt]; split
  · unfold stW; split
    · rename_i e; rw [e]; dsimp only
      split
      · unfold stW2; split <;> simp_all
      · rfl
    · rename_i h; split
      · rename_i e; exact absurd e (h _ _ _ _)
      · rfl
  · rfl

/-! ### addresses and parts -/
def nilE (σ : St) : AV → Option Eff
  | .c (.ref k t off) => if t = σ.tg k then some (.look (.c (.ref k t off)) [k]) else none
  | .c (.elp cs j) => some (.pure (.c (.elp cs j)))
  | _ => none
@[simp] theorem ev1_nilc (x : SArg) : ev1 key ρ σ (.nilc x) = nilE σ (un (ρ x)) := rfl
@[simp] theorem nilE_ref (k t off : Nat) : nilE σ (.c (.ref k t off)) = if t = σ.tg k then some (.look (.c (.ref k t off)) [k]) else none := rfl
@[simp] theorem nilE_elp (cs : List Cell) (j : Nat) : nilE σ (.c (.elp cs j)) = some (.pure (.c (.elp cs j))) := rfl
@[simp] theorem cond_nilc (x : SArg) : cond β ρ σ (.nilc x) = gok β (ρ x) := rfl
def fadE (σ : St) (off : Nat) : AV → Option Eff
  | .c (.ref k t o) => if t = σ.tg k then some (.look (.c (.ref k t (o + off))) [k]) else none
  | .c (.elp cs j) => some (.pure (.c (.elp cs (j + off))))
  | .c (.elw k t sz i j) => if t = σ.tg k then some (.look (.c (.elw k t sz i (j + off))) [k]) else none
  | _ => none
@[simp] theorem ev1_fad (ty i off : Nat) (x : SArg) : ev1 key ρ σ (.fad ty i off x) = fadE σ off (un (ρ x)) := rfl
@[simp] theorem fadE_ref (off k t o : Nat) : fadE σ off (.c (.ref k t o)) = if t = σ.tg k then some (.look (.c (.ref k t (o + off))) [k]) else none := rfl
@[simp] theorem fadE_elp (off j : Nat) (cs : List Cell) : fadE σ off (.c (.elp cs j)) = some (.pure (.c (.elp cs (j + off)))) := rfl
@[simp] theorem fadE_elw (off k t sz i j : Nat) : fadE σ off (.c (.elw k t sz i j)) = if t = σ.tg k then some (.look (.c (.elw k t sz i (j + off))) [k]) else none := rfl
@[simp] theorem cond_fad (ty i off : Nat) (x : SArg) : cond β ρ σ (.fad ty i off x) = gok β (ρ x) := rfl
def fld1E (off : Nat) : AV → Option Eff
  | .agg cs => match cs[off]? with
    | some c => some (.pure (.c c))
    | none => none
  | _ => none
def fldnE (off n : Nat) : AV → Option Eff
  | .agg cs => if off + n ≤ cs.length then some (.pure (.agg ((cs.drop off).take n))) else none
  | _ => none
@[simp] theorem ev1_fld1 (ty i off : Nat) (x : SArg) : ev1 key ρ σ (.fld1 ty i off x) = fld1E off (un (ρ x)) := rfl
@[simp] theorem ev1_fldn (ty i off n : Nat) (x : SArg) : ev1 key ρ σ (.fldn ty i off n x) = fldnE off n (un (ρ x)) := rfl
@[simp] theorem fld1E_agg (off : Nat) (cs : List Cell) : fld1E off (.agg cs) = ld1P cs[off]? := by unfold fld1E ld1P; split <;> simp_all
@[simp] theorem fldnE_agg (off n : Nat) (cs : List Cell) : fldnE off n (.agg cs) = if off + n ≤ cs.length then some (.pure (.agg ((cs.drop off).take n))) else none := rfl
@[simp] theorem cond_fld1 (ty i off : Nat) (x : SArg) : cond β ρ σ (.fld1 ty i off x) = gok β (ρ x) := rfl
@[simp] theorem cond_fldn (ty i off n : Nat) (x : SArg) : cond β ρ σ (.fldn ty i off n x) = gok β (ρ x) := rfl
def iadO (sz n k t : Nat) : Option Obj → Option Eff
  | some (.mrow _ sz' _ _) => if sz = sz' then some (.look (.c (.elw k t sz n 0)) [k]) else none
  | some (.row _ sz' _ es) => if sz = sz' then some (.look (.c (.elp (es.getD n []) 0)) [k]) else none
  | _ => none
def iadE (σ : St) (sz : Nat) : AV → AV → Option Eff
  | .c (.own k t), .c (.v (.int .i64 n)) => if t = σ.tg k then iadO sz n.toNat k t (σ.ob k) else none
  | .c (.sl sz' _ es), .c (.v (.int .i64 n)) => if sz = sz' ∨ es = [] then some (.pure (.c (.elp (es.getD n.toNat []) 0))) else none
  | .c (.cap sz' _ es), .c (.v (.int .i64 n)) => if sz = sz' ∨ es = [] then some (.pure (.c (.elp (es.getD n.toNat []) 0))) else none
  | _, _ => none
theorem intOf_some {x : AV} {n : Int} (h : intOf? x = some n) : x = .c (.v (.int .i64 n)) := by
  unfold intOf? at h; split at h
  · cases h; rfl
  · cases h
theorem iad_own (ty sz k t : Nat) (x i : SArg) (n : Int) (hx : un (ρ x) = .c (.own k t)) (hi : un (ρ i) = .c (.v (.int .i64 n))) : ev1 key ρ σ (.iad ty sz x i) = if t = σ.tg k then iadO sz n.toNat k t (σ.ob k) else none := by
  simp only [ev1, hx, hi, intOf?]; split
  · unfold iadO; split <;> simp_all
  · rfl
@[simp] theorem ev1_iad (ty sz : Nat) (x i : SArg) : ev1 key ρ σ (.iad ty sz x i) = iadE σ sz (un (ρ x)) (un (ρ i)) := by
  cases hi : intOf? (un (ρ i)) with
  | none =>
    have h1 : ev1 key ρ σ (.iad ty sz x i) = none := by simp only [ev1, hi]
    rw [h1]; unfold iadE; split
    · rename_i e; rw [e] at hi; cases hi
    · rename_i e; rw [e] at hi; cases hi
    · rename_i e; rw [e] at hi; cases hi
    · rfl
  | some n =>
    have he := intOf_some hi
    unfold iadE; split
    · rename_i k t n' e1 e2
      exact iad_own ty sz k t x i n' e1 e2
    · rename_i e1 e2; simp only [ev1, e1, e2, intOf?]
    · rename_i e1 e2; simp only [ev1, e1, e2, intOf?]
    · rename_i h1 h2 h3
      rw [he] at h1 h2 h3
      simp only [ev1, hi]
      split
      · rename_i e; exact absurd rfl (h1 _ _ _ e)
      · rename_i e; exact absurd rfl (h2 _ _ _ _ e)
      · rename_i e; exact absurd rfl (h3 _ _ _ _ e)
      · rfl
@[simp] theorem iadE_own (sz k t : Nat) (n : Int) : iadE σ sz (.c (.own k t)) (.c (.v (.int .i64 n))) = if t = σ.tg k then iadO sz n.toNat k t (σ.ob k) else none := rfl
@[simp] theorem iadE_sl (sz sz' bs : Nat) (es : List (List Cell)) (n : Int) : iadE σ sz (.c (.sl sz' bs es)) (.c (.v (.int .i64 n))) = if sz = sz' ∨ es = [] then some (.pure (.c (.elp (es.getD n.toNat []) 0))) else none := rfl
@[simp] theorem iadE_cap (sz sz' bs : Nat) (es : List (List Cell)) (n : Int) : iadE σ sz (.c (.cap sz' bs es)) (.c (.v (.int .i64 n))) = if sz = sz' ∨ es = [] then some (.pure (.c (.elp (es.getD n.toNat []) 0))) else none := rfl
@[simp] theorem iadO_mrow (sz n k t ty sz' bs : Nat) (es : List (List Cell)) : iadO sz n k t (some (.mrow ty sz' bs es)) = if sz = sz' then some (.look (.c (.elw k t sz n 0)) [k]) else none := rfl
@[simp] theorem iadO_row (sz n k t ty sz' bs : Nat) (es : List (List Cell)) : iadO sz n k t (some (.row ty sz' bs es)) = if sz = sz' then some (.look (.c (.elp (es.getD n []) 0)) [k]) else none := rfl
def inO (n : Int) : Option Obj → Prop
  | some (.mrow _ _ _ es) => n < es.length
  | some (.row _ _ _ es) => n < es.length
  | _ => True
def inE (σ : St) (n : Int) : AV → Prop
  | .c (.own k _) => inO n (σ.ob k)
  | .c (.sl _ _ es) => n < es.length
  | .c (.cap _ _ es) => n < es.length
  | _ => True
@[simp] theorem inE_own (n : Int) (k t : Nat) : inE σ n (.c (.own k t)) = inO n (σ.ob k) := rfl
@[simp] theorem inE_sl (n : Int) (sz bs : Nat) (es : List (List Cell)) : inE σ n (.c (.sl sz bs es)) = (n < es.length) := rfl
@[simp] theorem inE_cap (n : Int) (sz bs : Nat) (es : List (List Cell)) : inE σ n (.c (.cap sz bs es)) = (n < es.length) := rfl
@[simp] theorem inO_mrow (n : Int) (ty sz bs : Nat) (es : List (List Cell)) : inO n (some (.mrow ty sz bs es)) = (n < es.length) := rfl
@[simp] theorem inO_row (n : Int) (ty sz bs : Nat) (es : List (List Cell)) : inO n (some (.row ty sz bs es)) = (n < es.length) := rfl
def iadC (σ : St) (x : AV) : Option Int → Prop
  | some n => 0 ≤ n ∧ inE σ n x
  | none => True
@[simp] theorem iadC_some (x : AV) (n : Int) : iadC σ x (some n) = (0 ≤ n ∧ inE σ n x) := rfl
@[simp] theorem intOf_v (n : Int) : intOf? (.c (.v (.int .i64 n))) = some n := rfl
@[simp] theorem cond_iad (ty sz : Nat) (x i : SArg) : cond β ρ σ (.iad ty sz x i) = (gok β (ρ x) ∧ gok β (ρ i) ∧ (β = true → iadC σ (un (ρ x)) (intOf? (un (ρ i))))) := by
  have h : cond β ρ σ (.iad ty sz x i) = (gok β (ρ x) ∧ gok β (ρ i) ∧ (β = true → ∀ n, intOf? (un (ρ i)) = some n → 0 ≤ n ∧ inE σ n (un (ρ x)))) := rfl
  rw [h]
  unfold iadC
  cases intOf? (un (ρ i)) <;> simp

/-! ### reckoning -/
def beqE (neg : Bool) : AV → AV → Option Eff
  | .c (.v (.bool a)), .c (.v (.bool b)) => some (.pure (.c (.v (.bool (if neg then a != b else a == b)))))
  | _, _ => none
@[simp] theorem ev1_beq (neg : Bool) (ty : Nat) (x y : SArg) : ev1 key ρ σ (.beq neg ty x y) = beqE neg (un (ρ x)) (un (ρ y)) := rfl
@[simp] theorem beqE_f (a b : Bool) : beqE false (.c (.v (.bool a))) (.c (.v (.bool b))) = some (.pure (.c (.v (.bool (a == b))))) := rfl
@[simp] theorem beqE_t (a b : Bool) : beqE true (.c (.v (.bool a))) (.c (.v (.bool b))) = some (.pure (.c (.v (.bool (a != b))))) := rfl
@[simp] theorem cond_beq (neg : Bool) (ty : Nat) (x y : SArg) : cond β ρ σ (.beq neg ty x y) = (gok β (ρ x) ∧ gok β (ρ y)) := rfl
def binK : Option Value → Option Eff
  | some v => some (.pure (.c (.v v)))
  | none => none
@[simp] theorem binK_some (v : Value) : binK (some v) = some (.pure (.c (.v v))) := rfl
def binE (op : BinOp) : AV → AV → Option Eff
  | .c (.v a), .c (.v b) => binK (binV op a b)
  | _, _ => none
@[simp] theorem ev1_bin (op : BinOp) (x y : SArg) : ev1 key ρ σ (.bin op x y) = binE op (un (ρ x)) (un (ρ y)) := by
  simp only [ev1]; unfold binE; split <;> rename_i e1 e2
  · rw [e1, e2]; dsimp only; unfold binK; split <;> simp_all
  · split
    · rename_i e3 e4; exact absurd e4 (e2 _ _ e3)
    · rfl
@[simp] theorem binE_vv (op : BinOp) (a b : Value) : binE op (.c (.v a)) (.c (.v b)) = binK (binV op a b) := rfl
@[simp] theorem binV_add (k : IntKind) (a b : Int) : binV .add (.int k a) (.int k b) = some (.int k (k.wrap (a + b))) := by simp [binV]
@[simp] theorem binV_sub (k : IntKind) (a b : Int) : binV .sub (.int k a) (.int k b) = some (.int k (k.wrap (a - b))) := by simp [binV]
@[simp] theorem binV_mul (k : IntKind) (a b : Int) : binV .mul (.int k a) (.int k b) = some (.int k (k.wrap (a * b))) := by simp [binV]
@[simp] theorem binV_quo (k : IntKind) (a b : Int) : binV .quo (.int k a) (.int k b) = some (.int k (k.wrap (a.tdiv b))) := by simp [binV]
@[simp] theorem binV_rem (k : IntKind) (a b : Int) : binV .rem (.int k a) (.int k b) = some (.int k (a.tmod b)) := by simp [binV]
@[simp] theorem binV_eql (k : IntKind) (a b : Int) : binV .eql (.int k a) (.int k b) = some (.bool (decide (a = b))) := by simp [binV]; rfl
@[simp] theorem binV_neq (k : IntKind) (a b : Int) : binV .neq (.int k a) (.int k b) = some (.bool (!decide (a = b))) := by simp [binV]; rfl
@[simp] theorem binV_lss (k : IntKind) (a b : Int) : binV .lss (.int k a) (.int k b) = some (.bool (decide (a < b))) := by simp [binV]
@[simp] theorem binV_leq (k : IntKind) (a b : Int) : binV .leq (.int k a) (.int k b) = some (.bool (decide (a ≤ b))) := by simp [binV]
@[simp] theorem binV_gtr (k : IntKind) (a b : Int) : binV .gtr (.int k a) (.int k b) = some (.bool (decide (b < a))) := by simp [binV]
@[simp] theorem binV_geq (k : IntKind) (a b : Int) : binV .geq (.int k a) (.int k b) = some (.bool (decide (b ≤ a))) := by simp [binV]
def divC (β : Bool) (op : BinOp) (y : AV) : Prop := match op, y with
  | .quo, .c (.v (.int _ b)) => β = true → b ≠ 0
  | .rem, .c (.v (.int _ b)) => β = true → b ≠ 0
  | _, _ => True
@[simp] theorem cond_bin (op : BinOp) (x y : SArg) : cond β ρ σ (.bin op x y) = (gok β (ρ x) ∧ gok β (ρ y) ∧ divC β op (un (ρ y))) := rfl
@[simp] theorem divC_add (y : AV) : divC β .add y = True := rfl
@[simp] theorem divC_sub (y : AV) : divC β .sub y = True := rfl
@[simp] theorem divC_mul (y : AV) : divC β .mul y = True := rfl
@[simp] theorem divC_eql (y : AV) : divC β .eql y = True := rfl
@[simp] theorem divC_neq (y : AV) : divC β .neq y = True := rfl
@[simp] theorem divC_lss (y : AV) : divC β .lss y = True := rfl
@[simp] theorem divC_leq (y : AV) : divC β .leq y = True := rfl
@[simp] theorem divC_gtr (y : AV) : divC β .gtr y = True := rfl
@[simp] theorem divC_geq (y : AV) : divC β .geq y = True := rfl
@[simp] theorem divC_quo (k : IntKind) (b : Int) : divC β .quo (.c (.v (.int k b))) = (β = true → b ≠ 0) := rfl
@[simp] theorem divC_rem (k : IntKind) (b : Int) : divC β .rem (.c (.v (.int k b))) = (β = true → b ≠ 0) := rfl
def notE : AV → Option Eff
  | .c (.v (.bool b)) => some (.pure (.c (.v (.bool (!b)))))
  | _ => none
@[simp] theorem ev1_not (x : SArg) : ev1 key ρ σ (.not x) = notE (un (ρ x)) := rfl
@[simp] theorem notE_b (b : Bool) : notE (.c (.v (.bool b))) = some (.pure (.c (.v (.bool (!b))))) := rfl
@[simp] theorem cond_not (x : SArg) : cond β ρ σ (.not x) = gok β (ρ x) := rfl
def negE : AV → Option Eff
  | .c (.v (.int k n)) => some (.pure (.c (.v (.int k (k.wrap (0 - n))))))
  | _ => none
@[simp] theorem ev1_neg (x : SArg) : ev1 key ρ σ (.neg x) = negE (un (ρ x)) := rfl
@[simp] theorem negE_i (k : IntKind) (n : Int) : negE (.c (.v (.int k n))) = some (.pure (.c (.v (.int k (k.wrap (0 - n)))))) := rfl
@[simp] theorem cond_neg (x : SArg) : cond β ρ σ (.neg x) = gok β (ρ x) := rfl
def convE (k : IntKind) : AV → Option Eff
  | .c (.v (.int _ n)) => some (.pure (.c (.v (.int k (k.wrap n)))))
  | _ => none
@[simp] theorem ev1_conv (t u : Nat) (k : IntKind) (x : SArg) : ev1 key ρ σ (.conv t u k x) = convE k (un (ρ x)) := rfl
@[simp] theorem convE_i (k k' : IntKind) (n : Int) : convE k (.c (.v (.int k' n))) = some (.pure (.c (.v (.int k (k.wrap n))))) := rfl
@[simp] theorem cond_conv (t u : Nat) (k : IntKind) (x : SArg) : cond β ρ σ (.conv t u k x) = gok β (ρ x) := rfl
@[simp] theorem ev1_best (mx : Bool) (x : SArg) (xs : List SArg) : ev1 key ρ σ (.best mx (x :: xs)) = (match un (ρ x) with
      | .c (.v (.int k a)) => match bestL mx k a (xs.map ρ) with
        | some m => some (.pure (.c (.v (.int k m))))
        | none => none
      | _ => none) := rfl
@[simp] theorem cond_best (mx : Bool) (xs : List SArg) : cond β ρ σ (.best mx xs) = ∀ x, x ∈ xs → gok β (ρ x) := rfl

/-! ### functions, tuples, slices -/
def mkK (f : Nat) : Option (List (Nat × Nat)) → Option (List (Nat × Nat)) → Option Eff
  | some a, some b => some (.pure (.c (.clo f a b)))
  | _, _ => none
@[simp] theorem mkK_some (f : Nat) (a b : List (Nat × Nat)) : mkK f (some a) (some b) = some (.pure (.c (.clo f a b))) := rfl
@[simp] theorem ev1_mkfn (f : Nat) (xs ys : List SArg) : ev1 key ρ σ (.mkfn f xs ys) = mkK f (refKeys (xs.map ρ)) (refKeys (ys.map ρ)) := by
  simp only [ev1]; unfold mkK; split <;> simp_all
@[simp] theorem refKeys_nil : refKeys [] = some [] := rfl
def refKK : Option (Nat × Nat) → Option (List (Nat × Nat)) → Option (List (Nat × Nat))
  | some k, some l => some (k :: l)
  | _, _ => none
@[simp] theorem refKK_some (k : Nat × Nat) (l : List (Nat × Nat)) : refKK (some k) (some l) = some (k :: l) := rfl
@[simp] theorem refKeys_cons (x : AV) (r : List AV) : refKeys (x :: r) = refKK (refKey (un x)) (refKeys r) := by simp only [refKeys]; unfold refKK; split <;> simp_all
@[simp] theorem refKey_ref (k t : Nat) : refKey (.c (.ref k t 0)) = some (k, t) := rfl
@[simp] theorem cond_mkfn (f : Nat) (xs ys : List SArg) : cond β ρ σ (.mkfn f xs ys) = ((∀ x, x ∈ xs → gok β (ρ x)) ∧ ∀ x, x ∈ ys → gok β (ρ x)) := rfl
def extE (i : Nat) : AV → Option Eff
  | .tup l => match l[i]? with
    | some x => some (.pure x)
    | none => none
  | _ => none
@[simp] theorem ev1_ext (x : SArg) (i : Nat) : ev1 key ρ σ (.ext x i) = extE i (un (ρ x)) := rfl
@[simp] theorem extE_0 (x : AV) (l : List AV) : extE 0 (.tup (x :: l)) = some (.pure x) := rfl
@[simp] theorem extE_1 (x y : AV) (l : List AV) : extE 1 (.tup (x :: y :: l)) = some (.pure y) := rfl
@[simp] theorem extE_2 (x y z : AV) (l : List AV) : extE 2 (.tup (x :: y :: z :: l)) = some (.pure z) := rfl
@[simp] theorem extE_3 (x y z u : AV) (l : List AV) : extE 3 (.tup (x :: y :: z :: u :: l)) = some (.pure u) := rfl
@[simp] theorem cond_ext (x : SArg) (i : Nat) : cond β ρ σ (.ext x i) = gok β (ρ x) := rfl
def lenO (k : Nat) : Option Obj → Option Eff
  | some (.mrow _ _ _ es) => some (.look (.c (.v (.int .i64 es.length))) [k])
  | some (.row _ _ _ es) => some (.look (.c (.v (.int .i64 es.length))) [k])
  | _ => none
def lenE (σ : St) : AV → Option Eff
  | .c (.own k t) => if t = σ.tg k then lenO k (σ.ob k) else none
  | .c (.sl _ _ es) => some (.pure (.c (.v (.int .i64 es.length))))
  | .c (.cap _ _ es) => some (.pure (.c (.v (.int .i64 es.length))))
  | _ => none
@[simp] theorem ev1_len (ty : Nat) (x : SArg) : ev1 key ρ σ (.len ty x) = lenE σ (un (ρ x)) := rfl
@[simp] theorem lenE_own (k t : Nat) : lenE σ (.c (.own k t)) = if t = σ.tg k then lenO k (σ.ob k) else none := rfl
@[simp] theorem lenE_sl (sz bs : Nat) (es : List (List Cell)) : lenE σ (.c (.sl sz bs es)) = some (.pure (.c (.v (.int .i64 es.length)))) := rfl
@[simp] theorem lenE_cap (sz bs : Nat) (es : List (List Cell)) : lenE σ (.c (.cap sz bs es)) = some (.pure (.c (.v (.int .i64 es.length)))) := rfl
@[simp] theorem lenO_mrow (k ty sz bs : Nat) (es : List (List Cell)) : lenO k (some (.mrow ty sz bs es)) = some (.look (.c (.v (.int .i64 es.length))) [k]) := rfl
@[simp] theorem lenO_row (k ty sz bs : Nat) (es : List (List Cell)) : lenO k (some (.row ty sz bs es)) = some (.look (.c (.v (.int .i64 es.length))) [k]) := rfl
@[simp] theorem cond_len (ty : Nat) (x : SArg) : cond β ρ σ (.len ty x) = gok β (ρ x) := rfl
def mkE (key t ty sz bs : Nat) (zs : List Cell) : AV → Option Eff
  | .c (.v (.int .i64 m)) => some ⟨.c (.own key (t + 1)), [key], [(key, .mrow ty sz bs (List.replicate m.toNat (zs.map Cell.plain)))], []⟩
  | _ => none
@[simp] theorem ev1_mk (ty sz bs : Nat) (zs : List Cell) (x : SArg) : ev1 key ρ σ (.mk ty sz bs zs x) = mkE key (σ.tg key) ty sz bs zs (un (ρ x)) := rfl
@[simp] theorem mkE_i (t ty sz bs : Nat) (zs : List Cell) (m : Int) : mkE key t ty sz bs zs (.c (.v (.int .i64 m))) = some ⟨.c (.own key (t + 1)), [key], [(key, .mrow ty sz bs (List.replicate m.toNat (zs.map Cell.plain)))], []⟩ := rfl
def mkC (β : Bool) (bs : Nat) : AV → Prop
  | .c (.v (.int .i64 m)) => β = true → 0 ≤ m ∧ m * bs ≤ room
  | _ => True
@[simp] theorem cond_mk (ty sz bs : Nat) (zs : List Cell) (x : SArg) : cond β ρ σ (.mk ty sz bs zs x) = (gok β (ρ x) ∧ mkC β bs (un (ρ x))) := rfl
@[simp] theorem mkC_i (bs : Nat) (m : Int) : mkC β bs (.c (.v (.int .i64 m))) = (β = true → 0 ≤ m ∧ m * bs ≤ room) := rfl
def elO : Option Obj → Option (Nat × Nat × List (List Cell))
  | some (.row _ sz bs es) => some (sz, bs, es)
  | _ => none
@[simp] theorem elO_row (ty sz bs : Nat) (es : List (List Cell)) : elO (some (.row ty sz bs es)) = some (sz, bs, es) := rfl
@[simp] theorem elems_sl (sz bs : Nat) (es : List (List Cell)) : elems σ (.c (.sl sz bs es)) = some (sz, bs, es) := rfl
@[simp] theorem elems_cap (sz bs : Nat) (es : List (List Cell)) : elems σ (.c (.cap sz bs es)) = some (sz, bs, es) := rfl
@[simp] theorem elems_own (k t : Nat) : elems σ (.c (.own k t)) = if t = σ.tg k then elO (σ.ob k) else none := rfl
def litK (σ : St) : Option (List Cell) → Option (List (List Cell)) → Option (List (List Cell))
  | some cs, some l => some (cs.map (toD σ) :: l)
  | _, _ => none
@[simp] theorem litK_some (cs : List Cell) (l : List (List Cell)) : litK σ (some cs) (some l) = some (cs.map (toD σ) :: l) := rfl
@[simp] theorem litEs_nil : litEs σ [] = some [] := rfl
@[simp] theorem litEs_cons (x : AV) (r : List AV) : litEs σ (x :: r) = litK σ (cellsOf (un x)) (litEs σ r) := by simp only [litEs]; unfold litK; split <;> simp_all
def litE (sz bs : Nat) (rd : List Nat) : Option (List (List Cell)) → Option Eff
  | some es => some (.look (.c (.cap sz bs es)) rd)
  | none => none
@[simp] theorem litE_some (sz bs : Nat) (rd : List Nat) (es : List (List Cell)) : litE sz bs rd (some es) = some (.look (.c (.cap sz bs es)) rd) := rfl
@[simp] theorem ev1_lit (ty sz bs : Nat) (xs : List SArg) : ev1 key ρ σ (.lit ty sz bs xs) = litE sz bs (xs.flatMap fun x => (un (ρ x)).keys1) (litEs σ (xs.map ρ)) := by simp only [ev1]; unfold litE; split <;> simp_all
def litC (β : Bool) (sz bs : Nat) : Option (List (List Cell)) → Prop
  | some es => (∀ l, l ∈ es → l.length = sz ∧ l.all Cell.isD = true) ∧ (β = true → es.length * bs ≤ room ∧ es.length * sz ≤ 16777216)
  | none => True
@[simp] theorem litC_some (sz bs : Nat) (es : List (List Cell)) : litC β sz bs (some es) = ((∀ l, l ∈ es → l.length = sz ∧ l.all Cell.isD = true) ∧ (β = true → es.length * bs ≤ room ∧ es.length * sz ≤ 16777216)) := rfl
@[simp] theorem cond_lit (ty sz bs : Nat) (xs : List SArg) : cond β ρ σ (.lit ty sz bs xs) = ((∀ x, x ∈ xs → gok β (ρ x)) ∧ litC β sz bs (litEs σ (xs.map ρ))) := by
  simp only [cond]; unfold litC; split <;> simp_all
def appO (key t k ty sz bs : Nat) (rd : List Nat) (ys : List (List Cell)) : Option Obj → Option Eff
  | some (.row ty' _ _ es) => if ty' = ty then some ⟨.c (.own key (t + 1)), [key, k], [(key, .row ty sz bs (es ++ ys))], rd⟩ else none
  | some (.mrow ty' _ _ es) => if ty' = ty then some ⟨.c (.own key (t + 1)), [key, k], [(key, .row ty sz bs (es ++ ys))], rd⟩ else none
  | _ => none
def appE (key : Nat) (σ : St) (ty sz bs : Nat) (rd : List Nat) (x : AV) (y : Option (Nat × Nat × List (List Cell))) : Option Eff := match y with
  | some (_, _, ys) => match x with
    | .c (.cap _ _ es) => some ⟨.c (.own key (σ.tg key + 1)), [key], [(key, .row ty sz bs (es ++ ys))], rd⟩
    | .c (.own k t) => if t = σ.tg k then appO key (σ.tg key) k ty sz bs (k :: rd) ys (σ.ob k) else none
    | _ => none
  | none => none
@[simp] theorem ev1_app (ty sz bs : Nat) (x y : SArg) : ev1 key ρ σ (.app ty sz bs x y) = appE key σ ty sz bs (un (ρ y)).keys1 (un (ρ x)) (elems σ (un (ρ y))) := rfl
@[simp] theorem appE_cap (ty sz bs sz' bs' sz2 bs2 : Nat) (rd : List Nat) (es ys : List (List Cell)) : appE key σ ty sz bs rd (.c (.cap sz' bs' es)) (some (sz2, bs2, ys)) = some ⟨.c (.own key (σ.tg key + 1)), [key], [(key, .row ty sz bs (es ++ ys))], rd⟩ := rfl
@[simp] theorem appE_own (ty sz bs k t sz2 bs2 : Nat) (rd : List Nat) (ys : List (List Cell)) : appE key σ ty sz bs rd (.c (.own k t)) (some (sz2, bs2, ys)) = if t = σ.tg k then appO key (σ.tg key) k ty sz bs (k :: rd) ys (σ.ob k) else none := rfl
@[simp] theorem appO_row (t k ty sz bs ty' sz' bs' : Nat) (rd : List Nat) (es ys : List (List Cell)) : appO key t k ty sz bs rd ys (some (.row ty' sz' bs' es)) = if ty' = ty then some ⟨.c (.own key (t + 1)), [key, k], [(key, .row ty sz bs (es ++ ys))], rd⟩ else none := rfl
@[simp] theorem appO_mrow (t k ty sz bs ty' sz' bs' : Nat) (rd : List Nat) (es ys : List (List Cell)) : appO key t k ty sz bs rd ys (some (.mrow ty' sz' bs' es)) = if ty' = ty then some ⟨.c (.own key (t + 1)), [key, k], [(key, .row ty sz bs (es ++ ys))], rd⟩ else none := rfl

def capO (sz bs : Nat) (ys : List (List Cell)) : Option Obj → Prop
  | some (.row _ sz' _ es) => sz' = sz ∧ (es.length + ys.length) * bs ≤ room
  | some (.mrow _ sz' _ es) => sz' = sz ∧ (es.length + ys.length) * bs ≤ room
  | _ => True
def capE (σ : St) (sz bs : Nat) (ys : List (List Cell)) : AV → Prop
  | .c (.cap sz' _ es) => (sz' = sz ∨ es = []) ∧ (es.length + ys.length) * bs ≤ room
  | .c (.own k _) => capO sz bs ys (σ.ob k)
  | _ => True
def appC (σ : St) (sz bs : Nat) (x : AV) : Option (Nat × Nat × List (List Cell)) → Prop
  | some q => (q.1 = sz ∨ q.2.2 = []) ∧ capE σ sz bs q.2.2 x
  | none => True
@[simp] theorem capO_row (sz bs ty sz' bs' : Nat) (es ys : List (List Cell)) : capO sz bs ys (some (.row ty sz' bs' es)) = (sz' = sz ∧ (es.length + ys.length) * bs ≤ room) := rfl
@[simp] theorem capO_mrow (sz bs ty sz' bs' : Nat) (es ys : List (List Cell)) : capO sz bs ys (some (.mrow ty sz' bs' es)) = (sz' = sz ∧ (es.length + ys.length) * bs ≤ room) := rfl
@[simp] theorem capE_cap (sz bs sz' bs' : Nat) (es ys : List (List Cell)) : capE σ sz bs ys (.c (.cap sz' bs' es)) = ((sz' = sz ∨ es = []) ∧ (es.length + ys.length) * bs ≤ room) := rfl
@[simp] theorem capE_own (sz bs k t : Nat) (ys : List (List Cell)) : capE σ sz bs ys (.c (.own k t)) = capO sz bs ys (σ.ob k) := rfl
@[simp] theorem appC_some (sz bs a b : Nat) (x : AV) (ys : List (List Cell)) : appC σ sz bs x (some (a, b, ys)) = ((a = sz ∨ ys = []) ∧ capE σ sz bs ys x) := rfl
@[simp] theorem cond_app (ty sz bs : Nat) (x y : SArg) : cond β ρ σ (.app ty sz bs x y) = (gok β (ρ x) ∧ gok β (ρ y) ∧ (β = true → appC σ sz bs (un (ρ x)) (elems σ (un (ρ y))))) := by
  have h : cond β ρ σ (.app ty sz bs x y) = (gok β (ρ x) ∧ gok β (ρ y) ∧ (β = true → ∀ q, elems σ (un (ρ y)) = some q → (q.1 = sz ∨ q.2.2 = []) ∧ capE σ sz bs q.2.2 (un (ρ x)))) := rfl
  rw [h]
  unfold appC
  cases elems σ (un (ρ y)) <;> simp
theorem ap_appw {d key k : Nat} {v : AV} {o : Obj} {rd : List Nat} : σ.ap (some d) ⟨v, [key, k], [(key, o)], rd⟩ = if key = k then (σ.new key o).set d v else ((σ.del k).new key o).set d v := by
  by_cases h : key = k
  · subst h
    rw [if_pos rfl, ← ap_new (rd := rd)]
    refine st_ext (fun s => rfl) (fun k' => ?_) fun k' => ?_
    · simp [St.ap, obAfter]
    · simp [St.ap]
  · rw [if_neg h]; exact ap_app h
attribute [simp] ap_appw ap_put

/-! ### a part of a slice -/
def loOf (ρ : SArg → AV) : Option SArg → Option Int
  | some y => intOf? (un (ρ y))
  | none => some 0
def hiOf (ρ : SArg → AV) (len : Nat) : Option SArg → Option Int
  | some y => intOf? (un (ρ y))
  | none => some len
@[simp] theorem loOf_s (y : SArg) : loOf ρ (some y) = intOf? (un (ρ y)) := rfl
@[simp] theorem loOf_n : loOf ρ none = some 0 := rfl
@[simp] theorem hiOf_s (len : Nat) (y : SArg) : hiOf ρ len (some y) = intOf? (un (ρ y)) := rfl
@[simp] theorem hiOf_n (len : Nat) : hiOf ρ len none = some (len : Int) := rfl
def slcE (sz bs : Nat) (rd : List Nat) (cut : Bool) (es : List (List Cell)) : Option Int → Option Int → Option Eff
  | some l, some h => some (.look (.c (bif cut then .cap sz bs ((es.take h.toNat).drop l.toNat) else .sl sz bs ((es.take h.toNat).drop l.toNat))) rd)
  | _, _ => none
@[simp] theorem slcE_some (sz bs : Nat) (rd : List Nat) (cut : Bool) (es : List (List Cell)) (l h : Int) :
    slcE sz bs rd cut es (some l) (some h) = some (.look (.c (bif cut then .cap sz bs ((es.take h.toNat).drop l.toNat) else .sl sz bs ((es.take h.toNat).drop l.toNat))) rd) := rfl
def slcK (ρ : SArg → AV) (sz bs : Nat) (rd : List Nat) (lo hi : Option SArg) (cut : Bool) : Option (Nat × Nat × List (List Cell)) → Option Eff
  | some (_, _, es) => slcE sz bs rd cut es (loOf ρ lo) (hiOf ρ es.length hi)
  | none => none
@[simp] theorem slcK_some (sz bs a b : Nat) (rd : List Nat) (lo hi : Option SArg) (cut : Bool) (es : List (List Cell)) : slcK ρ sz bs rd lo hi cut (some (a, b, es)) = slcE sz bs rd cut es (loOf ρ lo) (hiOf ρ es.length hi) := rfl
@[simp] theorem ev1_slc2 (ty sz bs : Nat) (x : SArg) (lo hi : Option SArg) : ev1 key ρ σ (.slc ty sz bs x lo hi none) = slcK ρ sz bs (un (ρ x)).keys1 lo hi false (elems σ (un (ρ x))) := by
  unfold slcK; cases h : elems σ (un (ρ x)) with
  | none => simp only [ev1, h]
  | some q =>
    obtain ⟨a, b, es⟩ := q
    unfold slcE
    cases lo <;> cases hi <;> simp only [ev1, h, loOf, hiOf] <;> (try split) <;> (try rfl) <;> simp_all
def mxE (ρ : SArg → AV) (y : SArg) (e : Option Eff) : Option Eff := match intOf? (un (ρ y)) with
  | some _ => e
  | none => none
def slcC (β : Bool) (ρ : SArg → AV) (sz bs : Nat) (lo hi mx : Option SArg) : Option (Nat × Nat × List (List Cell)) → Prop
  | some q => (q.1 = sz ∨ q.2.2 = []) ∧ q.2.2.length * bs ≤ room ∧
        ∀ l h : Int, loOf ρ lo = some l → hiOf ρ q.2.2.length hi = some h → 0 ≤ l ∧ l ≤ h ∧ h ≤ q.2.2.length ∧ ∀ y, mx = some y → intOf? (un (ρ y)) = some h
  | none => True
@[simp] theorem slcC_some (sz bs a b : Nat) (lo hi mx : Option SArg) (es : List (List Cell)) : slcC β ρ sz bs lo hi mx (some (a, b, es)) = ((a = sz ∨ es = []) ∧ es.length * bs ≤ room ∧
        ∀ l h : Int, loOf ρ lo = some l → hiOf ρ es.length hi = some h → 0 ≤ l ∧ l ≤ h ∧ h ≤ es.length ∧ ∀ y, mx = some y → intOf? (un (ρ y)) = some h) := rfl
@[simp] theorem cond_slc (ty sz bs : Nat) (x : SArg) (lo hi mx : Option SArg) : cond β ρ σ (.slc ty sz bs x lo hi mx) = (gok β (ρ x) ∧ (∀ y, lo = some y → gok β (ρ y)) ∧ (∀ y, hi = some y → gok β (ρ y)) ∧ (∀ y, mx = some y → gok β (ρ y)) ∧
    (β = true → slcC β ρ sz bs lo hi mx (elems σ (un (ρ x))))) := by
  simp only [cond]
  unfold slcC
  cases elems σ (un (ρ x)) with
  | none => simp
  | some q => cases lo <;> cases hi <;> simp [loOf, hiOf]
@[simp] theorem ev1_slc3 (ty sz bs : Nat) (x y : SArg) (lo hi : Option SArg) : ev1 key ρ σ (.slc ty sz bs x lo hi (some y)) = mxE ρ y (slcK ρ sz bs (un (ρ x)).keys1 lo hi true (elems σ (un (ρ x)))) := by
  unfold slcK mxE; cases h : elems σ (un (ρ x)) with
  | none => simp only [ev1, h]; split <;> rfl
  | some q =>
    obtain ⟨a, b, es⟩ := q
    unfold slcE
    cases h3 : intOf? (un (ρ y)) <;> cases lo <;> cases hi <;> simp only [ev1, h, h3, loOf, hiOf] <;> (try split) <;> (try rfl) <;> simp_all

end Go.Abs
