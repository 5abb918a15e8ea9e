/- THIS TEXT PROVES A PART OF A CALCULUS THAT TELLS WHAT A LOADED GO FUNCTION DOES WITHOUT NAMING MEMORY: each rule is proved against the machine, for every program and every world; its conditions stand in each theorem. -/
import Derived.Test.YtmnjbnkenfefaaaAbs17
set_option linter.unusedVariables false
set_option linter.unusedSimpArgs false
namespace Go.Abs

variable {P : Program} {I : Init} {n : Nat} {σ σ' : St} {g g' : Gh} {a : Act} {w w' : World} {o : Oper} {e : Eff}

theorem cond_same {op : SOp} {β : Bool} (h : Same σ σ' op) (hc : cond β σ.ev σ op) : cond β σ'.ev σ' op := by
  cases op with
  | mv x => simp only [cond] at hc ⊢; rw [h.ev x (by simp [SOp.args])]; exact hc
  | pick c a b => simp only [cond] at hc ⊢; rw [h.ev c (by simp [SOp.args]), h.ev a (by simp [SOp.args]), h.ev b (by simp [SOp.args])]; exact hc
  | box ty x => simp only [cond] at hc ⊢; rw [h.ev x (by simp [SOp.args])]; exact hc
  | alloc ty zs => exact hc
  | build ty zs ps =>
    simp only [cond] at hc ⊢
    have hp : ∀ p, p ∈ ps → σ'.ev p.2.2.2 = σ.ev p.2.2.2 := fun p hp => h.ev _ (by simp only [SOp.args, List.mem_map]; exact ⟨p, hp, rfl⟩)
    exact ⟨fun p hm => by rw [hp p hm]; exact hc.1 p hm, fun p hm cs hcs => hc.2 p hm cs (by rw [← hp p hm]; exact hcs)⟩
  | lit ty sz bs xs =>
    simp only [cond] at hc ⊢
    rw [h.map (xs := xs) (fun x hx => hx), litEs_same (l := xs.map σ.ev) fun y hy => by
      obtain ⟨x, hx, rfl⟩ := List.mem_map.1 hy
      exact h.keys hx]
    exact ⟨fun x hx => by rw [h.ev x hx]; exact hc.1 x hx, hc.2⟩
  | ld1 ty x => simp only [cond] at hc ⊢; rw [h.ev x (by simp [SOp.args])]; exact hc
  | ldn ty m x => simp only [cond] at hc ⊢; rw [h.ev x (by simp [SOp.args])]; exact hc
  | st1 ty x v => simp only [cond] at hc ⊢; rw [h.ev x (by simp [SOp.args]), h.ev v (by simp [SOp.args])]; exact hc
  | stn ty m x v => simp only [cond] at hc ⊢; rw [h.ev x (by simp [SOp.args]), h.ev v (by simp [SOp.args])]; exact hc
  | nilc x => simp only [cond] at hc ⊢; rw [h.ev x (by simp [SOp.args])]; exact hc
  | beq neg ty x y => simp only [cond] at hc ⊢; rw [h.ev x (by simp [SOp.args]), h.ev y (by simp [SOp.args])]; exact hc
  | bin op x y => simp only [cond] at hc ⊢; rw [h.ev x (by simp [SOp.args]), h.ev y (by simp [SOp.args])]; exact hc
  | not x => simp only [cond] at hc ⊢; rw [h.ev x (by simp [SOp.args])]; exact hc
  | neg x => simp only [cond] at hc ⊢; rw [h.ev x (by simp [SOp.args])]; exact hc
  | conv t u k x => simp only [cond] at hc ⊢; rw [h.ev x (by simp [SOp.args])]; exact hc
  | mkfn f xs ys =>
    simp only [cond] at hc ⊢
    exact ⟨fun x hx => by rw [h.ev x (by simp [SOp.args, hx])]; exact hc.1 x hx, fun x hx => by rw [h.ev x (by simp [SOp.args, hx])]; exact hc.2 x hx⟩
  | mk ty sz bs zs x => simp only [cond] at hc ⊢; rw [h.ev x (by simp [SOp.args])]; exact hc
  | slc ty sz bs x lo hi mx =>
    simp only [cond] at hc ⊢; rw [h.ev x (by simp [SOp.args]), elems_same (h.keys (by simp [SOp.args]))]
    have hlo : ∀ y, lo = some y → σ'.ev y = σ.ev y := fun y hy => h.ev y (by simp [SOp.args, hy, optL])
    have hhi : ∀ y, hi = some y → σ'.ev y = σ.ev y := fun y hy => h.ev y (by simp [SOp.args, hy, optL])
    have hmx : ∀ y, mx = some y → σ'.ev y = σ.ev y := fun y hy => h.ev y (by simp [SOp.args, hy, optL])
    obtain ⟨c1, c2, c3, c4, c5⟩ := hc
    refine ⟨c1, fun y hy => by rw [hlo y hy]; exact c2 y hy, fun y hy => by rw [hhi y hy]; exact c3 y hy, fun y hy => by rw [hmx y hy]; exact c4 y hy, fun hb q hq => ?_⟩
    obtain ⟨d1, d2, d3⟩ := c5 hb q hq
    refine ⟨d1, d2, fun l h' hl hh => ?_⟩
    obtain ⟨f1, f2, f3, f4⟩ := d3 l h' (by rw [← hl]; cases lo <;> simp [hlo]) (by rw [← hh]; cases hi <;> simp [hhi])
    exact ⟨f1, f2, f3, fun y hy => by rw [hmx y hy]; exact f4 y hy⟩
  | fad ty i off x => simp only [cond] at hc ⊢; rw [h.ev x (by simp [SOp.args])]; exact hc
  | fld1 ty i off x => simp only [cond] at hc ⊢; rw [h.ev x (by simp [SOp.args])]; exact hc
  | fldn ty i off m x => simp only [cond] at hc ⊢; rw [h.ev x (by simp [SOp.args])]; exact hc
  | iad ty sz x i =>
    simp only [cond] at hc ⊢; rw [h.ev x (by simp [SOp.args]), h.ev i (by simp [SOp.args])]
    refine ⟨hc.1, hc.2.1, fun hb m hm => ⟨(hc.2.2 hb m hm).1, ?_⟩⟩
    have h3 := (hc.2.2 hb m hm).2
    split
    · rename_i k t e
      rw [e] at h3
      rw [(h.keys (x := x) (by simp [SOp.args]) k (keys_own e)).1]
      exact h3
    · rename_i e; rw [e] at h3; exact h3
    · rename_i e; rw [e] at h3; exact h3
    · trivial
  | ext x i => simp only [cond] at hc ⊢; rw [h.ev x (by simp [SOp.args])]; exact hc
  | len ty x => simp only [cond] at hc ⊢; rw [h.ev x (by simp [SOp.args])]; exact hc
  | app ty sz bs x y =>
    simp only [cond] at hc ⊢; rw [h.ev x (by simp [SOp.args]), h.ev y (by simp [SOp.args]), elems_same (h.keys (by simp [SOp.args]))]
    refine ⟨hc.1, hc.2.1, fun hb q hq => ⟨(hc.2.2 hb q hq).1, ?_⟩⟩
    have h3 := (hc.2.2 hb q hq).2
    split
    · rename_i e; rw [e] at h3; exact h3
    · rename_i k t e
      rw [e] at h3
      rw [(h.keys (x := x) (by simp [SOp.args]) k (keys_own e)).1]
      exact h3
    · trivial
  | best mx xs => simp only [cond] at hc ⊢; exact fun x hx => by rw [h.ev x hx]; exact hc x hx
  | call f xs => trivial

def SO.looks (so : SO) : List Nat := (so.op.args.filterMap fun | .t m => some m | _ => none) ++ (match so.gd with | some (s, _) => [s] | none => [])

theorem ev_same {op : SOp} {l : List Nat} (h : ∀ s, s ∈ (op.args.filterMap fun | .t m => some m | _ => none) → σ'.sl s = σ.sl s) : ∀ x, x ∈ op.args → σ'.ev x = σ.ev x := fun x hx => by
  cases x with
  | t m => exact h m (List.mem_filterMap.2 ⟨_, hx, rfl⟩)
  | _ => rfl

theorem toD2_same {x : AV} (h : ∀ k, k ∈ x.keys2 → σ'.ob k = σ.ob k ∧ σ'.tg k = σ.tg k) : toD2 σ' x = toD2 σ x := by
  cases x with
  | c x => simp only [toD2, toD1]; rw [toD_same h]
  | agg l => simp only [toD2, toD1]; rw [toD_sames h]
  | tup l => rfl
  | gd b x => rfl

theorem sem_same {base : Nat} {so : SO} (hsl : ∀ s, s ∈ so.looks → σ'.sl s = σ.sl s) (hob : ∀ k, k ∈ opKeys σ so.op ++ e.rd ++ wrote e → σ'.ob k = σ.ob k ∧ σ'.tg k = σ.tg k) (hkey : σ'.tg (base + so.dst.getD 0) = σ.tg (base + so.dst.getD 0))
    (hs : SemO P base so σ e) : SemO P base so σ' e := by
  obtain ⟨β, hβ, hs⟩ := hs
  have hS : Same σ σ' so.op := ⟨ev_same (l := []) fun s hs => hsl s (List.mem_append.2 (.inl hs)), fun k hk => hob k (by simp [hk])⟩
  refine ⟨β, ?_, ?_⟩
  · cases hg : so.gd with
    | none => rw [hg] at hβ; exact hβ
    | some q =>
      obtain ⟨s, want⟩ := q
      rw [hg] at hβ
      simp only [gdOf] at hβ ⊢
      rw [hsl s (by simp [SO.looks, hg])]
      exact hβ
  · cases hop : so.op
    case call f xs =>
      rw [hop] at hs hS
      obtain ⟨fn, k1, k2, ins, outs, res, pur, hC, hg, rfl⟩ := hs
      refine ⟨fn, k1, k2, ins, outs, res, pur, ?_, hg, rfl⟩
      have e1 := hS.ev f (by simp [SOp.args])
      have e2 : xs.map σ'.ev = xs.map σ.ev := hS.map fun x hx => by simp [SOp.args, hx]
      have e3 : (xs.map σ.ev).map (fun x => toD2 σ' (un x)) = (xs.map σ.ev).map (fun x => toD2 σ (un x)) := List.map_congr_left fun y hy => by
        obtain ⟨x, hx, rfl⟩ := List.mem_map.1 hy
        exact toD2_same fun k hk => hS.keys (x := x) (by simp [SOp.args, hx]) k hk
      have lk : ∀ {l : Objs} {k : Nat} {x : Nat × Obj}, l.lookup k = some x → k ∈ l.map (·.1) := fun {l k x} h => by
        induction l with
        | nil => simp at h
        | cons y l ih =>
          obtain ⟨k', y⟩ := y
          rw [List.lookup_cons] at h
          split at h
          · rename_i hk; simp at hk; simp [hk]
          · simp [ih h]
      have hin : ∀ k t q, ins.lookup k = some (t, q) → σ'.ob k = σ.ob k ∧ σ'.tg k = σ.tg k := fun k t q hk => hob k (by simp only [List.mem_append]; exact .inl (.inr (lk hk)))
      have hou : ∀ k t q, outs.lookup k = some (t, q) → σ'.ob k = σ.ob k ∧ σ'.tg k = σ.tg k := fun k t q hk => hob k (by
        have := lk hk
        simp only [List.mem_append, wrote, objsOf, List.map_map]
        exact .inr (.inr (by simpa [Function.comp_def] using this)))
      rw [e1, e2]
      exact
        { c0 := hC.c0, gf := hC.gf, gx := hC.gx, cs := fun hb => by rw [e3]; exact hC.cs hb
          ci := fun k t q hk => by
            obtain ⟨h1, h2⟩ := hin k t q hk
            rw [h1, h2]; exact hC.ci k t q hk
          co := fun k t q hk => by
            obtain ⟨h1, h2⟩ := hou k t q hk
            rw [h2]; exact hC.co k t q hk
          cp := hC.cp, kres := hC.kres, kobs := hC.kobs }
    all_goals
      simp only [hop] at hs
      rw [hop] at hS
      obtain ⟨e0, h1, h2, h3, h4⟩ := hs
      refine ⟨e0, ?_, cond_same hS h2, h3, h4⟩
      rw [ev1_same hS hkey]; exact h1

/-! ### two operations that are apart -/
theorem ap_sl {dst : Option Nat} {s : Nat} (h : dst ≠ some s) : (σ.ap dst e).sl s = σ.sl s := by
  cases dst with
  | none => rfl
  | some d => simp only [St.ap, upd]; rw [if_neg fun h' => h (by rw [h'])]
theorem ap_ob {dst : Option Nat} {k : Nat} (h : k ∉ wrote e) : (σ.ap dst e).ob k = σ.ob k ∧ (σ.ap dst e).tg k = σ.tg k := by
  simp only [wrote, List.mem_append, not_or, List.mem_map, not_exists, not_and] at h
  have h1 : e.put.lookup k = none := by
    rw [List.lookup_eq_none_iff]
    intro p hp
    have := h.2 p hp
    simpa using fun h' => this h'.symm
  have h2 : e.pur.contains k = false := by simpa using h.1
  constructor
  · simp only [St.ap, obAfter, h1, h2]; rfl
  · simp only [St.ap, h2]; rfl

theorem ap_comm {d1 d2 : Option Nat} {e1 e2 : Eff} (hd : ∀ s, d1 = some s → d2 ≠ some s) (hw : ∀ k, k ∈ wrote e1 → k ∉ wrote e2) : (σ.ap d1 e1).ap d2 e2 = (σ.ap d2 e2).ap d1 e1 := by
  have h1 : ∀ s, ((σ.ap d1 e1).ap d2 e2).sl s = ((σ.ap d2 e2).ap d1 e1).sl s := fun s => by
    by_cases c1 : d1 = some s
    · have c2 := hd s c1
      rw [ap_sl c2]; subst c1; simp [St.ap, upd]
    · rw [ap_sl (dst := d1) c1]
      by_cases c2 : d2 = some s
      · subst c2; simp [St.ap, upd]
      · rw [ap_sl c2, ap_sl c1, ap_sl c2]
  have h2 : ∀ k, ((σ.ap d1 e1).ap d2 e2).ob k = ((σ.ap d2 e2).ap d1 e1).ob k ∧ ((σ.ap d1 e1).ap d2 e2).tg k = ((σ.ap d2 e2).ap d1 e1).tg k := fun k => by
    by_cases c1 : k ∈ wrote e1
    · have c2 := hw k c1
      obtain ⟨q1, q2⟩ := ap_ob (σ := σ.ap d1 e1) (dst := d2) c2
      obtain ⟨q3, q4⟩ := ap_ob (σ := σ) (dst := d2) c2
      rw [q1, q2]
      simp only [St.ap, obAfter] at q3 q4 ⊢
      simp only [q3, q4, and_self]
    · obtain ⟨q1, q2⟩ := ap_ob (σ := σ.ap d2 e2) (dst := d1) c1
      obtain ⟨q3, q4⟩ := ap_ob (σ := σ) (dst := d1) c1
      rw [q1, q2]
      simp only [St.ap, obAfter] at q3 q4 ⊢
      simp only [q3, q4, and_self]
  have : ∀ x y : St, (∀ s, x.sl s = y.sl s) → (∀ k, x.ob k = y.ob k ∧ x.tg k = y.tg k) → x = y := fun x y a b => by
    cases x; cases y
    congr
    · exact funext a
    · exact funext fun k => (b k).1
    · exact funext fun k => (b k).2
  exact this _ _ h1 h2

/-- What was done, in which order: the index, what it wrote, what it looked at. -/
structure TE where
  i : Nat
  wr : List Nat
  lk : List Nat

def lkOf (base : Nat) (so : SO) (σ : St) (e : Eff) : List Nat := (base + so.dst.getD 0) :: (opKeys σ so.op ++ e.rd ++ wrote e)

inductive Tr (P : Program) (base : Nat) (sos : List SO) : List Nat → St → List TE → St → Prop where
  | nil (σ : St) : Tr P base sos [] σ [] σ
  | cons {i : Nat} {l : List Nat} {σ σ' : St} {so : SO} {e : Eff} {tr : List TE} (h : sos[i]? = some so) (hs : SemO P base so σ e) (ht : Tr P base sos l (σ.ap so.dst e) tr σ') :
      Tr P base sos (i :: l) σ (⟨i, wrote e, lkOf base so σ e⟩ :: tr) σ'

/-- Slots and keys do not meet. -/
structure ApartT (sos : List SO) (x y : TE) : Prop where
  d : ∀ so so', sos[x.i]? = some so → sos[y.i]? = some so' → (∀ s, so.dst = some s → so'.dst ≠ some s ∧ s ∉ so'.looks) ∧ ∀ s, so'.dst = some s → s ∉ so.looks
  k1 : ∀ k, k ∈ x.wr → k ∉ y.lk
  k2 : ∀ k, k ∈ y.wr → k ∉ x.lk

theorem wr_lk {base : Nat} {so : SO} {k : Nat} (h : k ∈ wrote e) : k ∈ lkOf base so σ e := by simp [lkOf, h]

theorem opKeys_same {op : SOp} (h : ∀ x, x ∈ op.args → σ'.ev x = σ.ev x) : opKeys σ' op = opKeys σ op := by
  simp only [opKeys, List.flatMap]
  rw [List.map_congr_left fun x hx => by rw [h x hx]]

theorem Tr.swap {base : Nat} {sos : List SO} {i j : Nat} {l : List Nat} {x y : TE} {tr : List TE} (h : Tr P base sos (i :: j :: l) σ (x :: y :: tr) σ') (ha : ApartT sos x y) : Tr P base sos (j :: i :: l) σ (y :: x :: tr) σ' := by
  cases h with
  | cons h hs ht =>
    rename_i so e
    cases ht with
    | cons h' hs' ht' =>
      rename_i so' e'
      obtain ⟨hd, k1, k2⟩ := ha
      obtain ⟨hd1, hd2⟩ := hd so so' h h'
      simp only at k1 k2
      have sl1 : ∀ s, s ∈ so'.looks → (σ.ap so.dst e).sl s = σ.sl s := fun s hs => ap_sl fun he => (hd1 s he).2 hs
      have sl2 : ∀ s, s ∈ so.looks → (σ.ap so'.dst e').sl s = σ.sl s := fun s hs => ap_sl fun he => hd2 s he hs
      have ok : opKeys (σ.ap so.dst e) so'.op = opKeys σ so'.op := opKeys_same (ev_same (l := []) fun s hs => sl1 s (List.mem_append.2 (.inl hs)))
      have n1 : ∀ k, k ∈ lkOf base so' (σ.ap so.dst e) e' → (σ.ap so.dst e).ob k = σ.ob k ∧ (σ.ap so.dst e).tg k = σ.tg k := fun k hk => ap_ob fun hw => k1 k hw hk
      have n2 : ∀ k, k ∈ lkOf base so σ e → (σ.ap so'.dst e').ob k = σ.ob k ∧ (σ.ap so'.dst e').tg k = σ.tg k := fun k hk => ap_ob fun hw => k2 k hw hk
      have hlk : lkOf base so' (σ.ap so.dst e) e' = lkOf base so' σ e' := by simp only [lkOf, ok]
      have s1 : SemO P base so' σ e' := sem_same (σ := σ.ap so.dst e) (fun s hs => (sl1 s hs).symm) (fun k hk => by
        obtain ⟨q1, q2⟩ := n1 k (by simp only [lkOf, List.mem_cons]; exact .inr hk)
        exact ⟨q1.symm, q2.symm⟩) ((n1 _ (by simp [lkOf])).2.symm) hs'
      have s2 : SemO P base so (σ.ap so'.dst e') e := sem_same (σ := σ) sl2 (fun k hk => n2 k (by simp only [lkOf, List.mem_cons]; exact .inr hk)) (n2 _ (by simp [lkOf])).2 hs
      rw [hlk]
      have hlk2 : lkOf base so σ e = lkOf base so (σ.ap so'.dst e') e := by
        simp only [lkOf]
        rw [opKeys_same (σ' := σ.ap so'.dst e') (ev_same (l := []) fun s hs => sl2 s (List.mem_append.2 (.inl hs)))]
      refine .cons h' s1 ?_
      rw [hlk2]
      refine .cons h s2 ?_
      rw [ap_comm (fun s hs he => (hd1 s he).1 hs) fun k hk hk' => k1 k hk' (wr_lk hk)]
      exact ht'

end Go.Abs
