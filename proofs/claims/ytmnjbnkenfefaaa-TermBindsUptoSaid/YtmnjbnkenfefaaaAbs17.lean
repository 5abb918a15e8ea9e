/- THIS TEXT PROVES A PART OF A CALCULUS THAT TELLS WHAT A LOADED GO FUNCTION DOES WITHOUT NAMING MEMORY: each rule is proved against the machine, for every program and every world; its conditions stand in each theorem. -/
import Derived.Test.YtmnjbnkenfefaaaAbs16
set_option linter.unusedVariables false
set_option linter.unusedSimpArgs false
namespace Go.Abs

variable {P : Program} {I : Init} {n : Nat} {σ σ' : St} {g g' : Gh} {a : Act} {w w' : World} {o : Oper} {e : Eff} {key : Nat}

/-! ### what an operation looks at -/
def optL {α : Type} : Option α → List α
  | some x => [x]
  | none => []

def SOp.args : SOp → List SArg
  | .mv x => [x]
  | .pick c a b => [c, a, b]
  | .box _ x => [x]
  | .alloc _ _ => []
  | .build _ _ ps => ps.map (·.2.2.2)
  | .lit _ _ _ xs => xs
  | .ld1 _ x => [x]
  | .ldn _ _ x => [x]
  | .st1 _ x v => [x, v]
  | .stn _ _ x v => [x, v]
  | .nilc x => [x]
  | .beq _ _ x y => [x, y]
  | .bin _ x y => [x, y]
  | .not x => [x]
  | .neg x => [x]
  | .conv _ _ _ x => [x]
  | .mkfn _ xs ys => xs ++ ys
  | .mk _ _ _ _ x => [x]
  | .slc _ _ _ x lo hi mx => x :: (optL lo ++ (optL hi ++ optL mx))
  | .fad _ _ _ x => [x]
  | .fld1 _ _ _ x => [x]
  | .fldn _ _ _ _ x => [x]
  | .iad _ _ x i => [x, i]
  | .ext x _ => [x]
  | .len _ x => [x]
  | .app _ _ _ x y => [x, y]
  | .best _ xs => xs
  | .call f xs => f :: xs

def opKeys (σ : St) (op : SOp) : List Nat := op.args.flatMap fun x => (un (σ.ev x)).keys2
def wrote (e : Eff) : List Nat := e.pur ++ e.put.map (·.1)

/-- Two states agree on what an operation looks at. -/
structure Same (σ σ' : St) (op : SOp) : Prop where
  ev : ∀ x, x ∈ op.args → σ'.ev x = σ.ev x
  ob : ∀ k, k ∈ opKeys σ op → σ'.ob k = σ.ob k ∧ σ'.tg k = σ.tg k

theorem toD_same {c : Cell} (h : ∀ k, k ∈ c.keys → σ'.ob k = σ.ob k ∧ σ'.tg k = σ.tg k) : toD σ' c = toD σ c := by
  cases c with
  | own k t => simp only [toD]; obtain ⟨h1, h2⟩ := h k (by simp [Cell.keys]); rw [h1, h2]
  | _ => rfl
theorem toD_sames {cs : List Cell} (h : ∀ k, k ∈ keysCs cs → σ'.ob k = σ.ob k ∧ σ'.tg k = σ.tg k) : cs.map (toD σ') = cs.map (toD σ) :=
  List.map_congr_left fun c hc => toD_same fun k hk => h k (List.mem_flatMap.2 ⟨c, hc, hk⟩)
theorem cellsOf_keys {x : AV} {cs : List Cell} (h : cellsOf x = some cs) {k : Nat} (hk : k ∈ keysCs cs) : k ∈ x.keys2 := by
  cases x with
  | c x =>
    have hcs : cs = [x] := by cases x <;> simp_all [cellsOf]
    subst hcs
    simpa [keysCs, AV.keys2, AV.keys1] using hk
  | agg l => simp [cellsOf] at h; subst h; exact hk
  | tup l => simp [cellsOf] at h
  | gd b x => simp [cellsOf] at h
theorem elems_same {x : AV} (h : ∀ k, k ∈ x.keys2 → σ'.ob k = σ.ob k ∧ σ'.tg k = σ.tg k) : elems σ' x = elems σ x := by
  cases x with
  | c x =>
    cases x with
    | own k t => simp only [elems]; obtain ⟨h1, h2⟩ := h k (by simp [AV.keys2, AV.keys1, Cell.keys]); rw [h1, h2]
    | _ => rfl
  | _ => rfl
theorem loadAt_same {one : Bool} {m : Nat} {x : AV} (h : ∀ k, k ∈ x.keys2 → σ'.ob k = σ.ob k ∧ σ'.tg k = σ.tg k) : loadAt σ' one m x = loadAt σ one m x := by
  cases x with
  | c x =>
    cases x with
    | ref k t off => simp only [loadAt]; obtain ⟨h1, h2⟩ := h k (by simp [AV.keys2, AV.keys1, Cell.keys]); rw [h1, h2]
    | elw k t sz i j => simp only [loadAt]; obtain ⟨h1, h2⟩ := h k (by simp [AV.keys2, AV.keys1, Cell.keys]); rw [h1, h2]
    | _ => rfl
  | _ => rfl
theorem storeAt_same {m : Nat} {xs : List Cell} {x : AV} (h : ∀ k, k ∈ x.keys2 → σ'.ob k = σ.ob k ∧ σ'.tg k = σ.tg k) (hx : ∀ k, k ∈ keysCs xs → σ'.ob k = σ.ob k ∧ σ'.tg k = σ.tg k) :
    storeAt σ' m xs x = storeAt σ m xs x := by
  cases x with
  | c x =>
    cases x with
    | ref k t off => simp only [storeAt]; obtain ⟨h1, h2⟩ := h k (by simp [AV.keys2, AV.keys1, Cell.keys]); rw [h1, h2]
    | elw k t sz i j => simp only [storeAt]; obtain ⟨h1, h2⟩ := h k (by simp [AV.keys2, AV.keys1, Cell.keys]); rw [h1, h2, toD_sames hx]
    | _ => rfl
  | _ => rfl
theorem litEs_same : ∀ {l : List AV}, (∀ x, x ∈ l → ∀ k, k ∈ (un x).keys2 → σ'.ob k = σ.ob k ∧ σ'.tg k = σ.tg k) → litEs σ' l = litEs σ l
  | [], _ => rfl
  | x :: r, h => by
    simp only [litEs]
    rw [litEs_same fun y hy => h y (by simp [hy])]
    cases hc : cellsOf (un x) with
    | none => rfl
    | some cs =>
      have e := toD_sames fun k hk => h x (by simp) k (cellsOf_keys hc hk)
      cases litEs σ r <;> simp [e]
theorem partCs_same {ρ ρ' : SArg → AV} : ∀ {ps : List (Nat × Nat × Nat × SArg)}, (∀ p, p ∈ ps → ρ' p.2.2.2 = ρ p.2.2.2) → partCs ρ' ps = partCs ρ ps
  | [], _ => rfl
  | (i, off, m, x) :: r, h => by
    simp only [partCs]
    rw [partCs_same fun p hp => h p (by simp [hp]), h (i, off, m, x) (by simp)]

theorem Same.map {op : SOp} (h : Same σ σ' op) {xs : List SArg} (hx : ∀ x, x ∈ xs → x ∈ op.args) : xs.map σ'.ev = xs.map σ.ev := List.map_congr_left fun x hm => h.ev x (hx x hm)
theorem Same.keys {op : SOp} (h : Same σ σ' op) {x : SArg} (hx : x ∈ op.args) : ∀ k, k ∈ (un (σ.ev x)).keys2 → σ'.ob k = σ.ob k ∧ σ'.tg k = σ.tg k := fun k hk => h.ob k (List.mem_flatMap.2 ⟨x, hx, hk⟩)

theorem keys_own {k t : Nat} {x : AV} (h : x = .c (.own k t)) : k ∈ x.keys2 := by subst h; simp [AV.keys2, AV.keys1, Cell.keys]
theorem keys_ref {k t off : Nat} {x : AV} (h : x = .c (.ref k t off)) : k ∈ x.keys2 := by subst h; simp [AV.keys2, AV.keys1, Cell.keys]
theorem keys_elw {k t sz i j : Nat} {x : AV} (h : x = .c (.elw k t sz i j)) : k ∈ x.keys2 := by subst h; simp [AV.keys2, AV.keys1, Cell.keys]

theorem ev1_same {op : SOp} (h : Same σ σ' op) (hk : σ'.tg key = σ.tg key) : ev1 key σ'.ev σ' op = ev1 key σ.ev σ op := by
  cases op with
  | mv x => simp only [ev1]; rw [h.ev x (by simp [SOp.args])]
  | pick c a b => simp only [ev1]; rw [h.ev c (by simp [SOp.args]), h.ev a (by simp [SOp.args]), h.ev b (by simp [SOp.args])]
  | box ty x => simp only [ev1]; rw [h.ev x (by simp [SOp.args]), hk]
  | alloc ty zs => simp only [ev1]; rw [hk]
  | build ty zs ps => simp only [ev1]; rw [partCs_same fun p hp => h.ev _ (by simp only [SOp.args, List.mem_map]; exact ⟨p, hp, rfl⟩)]
  | lit ty sz bs xs =>
    simp only [ev1]
    rw [h.map (xs := xs) (fun x hx => hx), litEs_same (l := xs.map σ.ev) fun y hy => by
      obtain ⟨x, hx, rfl⟩ := List.mem_map.1 hy
      exact h.keys hx]
    have : (xs.flatMap fun x => (un (σ'.ev x)).keys1) = xs.flatMap fun x => (un (σ.ev x)).keys1 := by
      simp only [List.flatMap]
      rw [List.map_congr_left fun x hx => by rw [h.ev x hx]]
    rw [this]
  | ld1 ty x => simp only [ev1]; rw [h.ev x (by simp [SOp.args]), loadAt_same (h.keys (by simp [SOp.args]))]
  | ldn ty m x => simp only [ev1]; rw [h.ev x (by simp [SOp.args]), loadAt_same (h.keys (by simp [SOp.args]))]
  | st1 ty x v =>
    simp only [ev1]; rw [h.ev x (by simp [SOp.args]), h.ev v (by simp [SOp.args])]
    cases hc : cellsOf (un (σ.ev v)) with
    | none => rfl
    | some cs => exact storeAt_same (h.keys (by simp [SOp.args])) fun k hk => h.keys (x := v) (by simp [SOp.args]) k (cellsOf_keys hc hk)
  | stn ty m x v =>
    simp only [ev1]; rw [h.ev x (by simp [SOp.args]), h.ev v (by simp [SOp.args])]
    cases hc : cellsOf (un (σ.ev v)) with
    | none => rfl
    | some cs => exact storeAt_same (h.keys (by simp [SOp.args])) fun k hk => h.keys (x := v) (by simp [SOp.args]) k (cellsOf_keys hc hk)
  | nilc x =>
    simp only [ev1]; rw [h.ev x (by simp [SOp.args])]
    split
    · rename_i k t off e; rw [(h.keys (x := x) (by simp [SOp.args]) k (keys_ref e)).2]
    · rfl
    · rfl
  | beq neg ty x y => simp only [ev1]; rw [h.ev x (by simp [SOp.args]), h.ev y (by simp [SOp.args])]
  | bin op x y => simp only [ev1]; rw [h.ev x (by simp [SOp.args]), h.ev y (by simp [SOp.args])]
  | not x => simp only [ev1]; rw [h.ev x (by simp [SOp.args])]
  | neg x => simp only [ev1]; rw [h.ev x (by simp [SOp.args])]
  | conv t u k x => simp only [ev1]; rw [h.ev x (by simp [SOp.args])]
  | mkfn f xs ys => simp only [ev1]; rw [h.map (xs := xs) (fun x hx => by simp [SOp.args, hx]), h.map (xs := ys) (fun x hx => by simp [SOp.args, hx])]
  | mk ty sz bs zs x =>
    simp only [ev1]; rw [h.ev x (by simp [SOp.args]), hk]
  | slc ty sz bs x lo hi mx =>
    simp only [ev1]; rw [h.ev x (by simp [SOp.args]), elems_same (h.keys (by simp [SOp.args]))]
    have hlo : ∀ y, lo = some y → σ'.ev y = σ.ev y := fun y hy => h.ev y (by simp [SOp.args, hy, optL])
    have hhi : ∀ y, hi = some y → σ'.ev y = σ.ev y := fun y hy => h.ev y (by simp [SOp.args, hy, optL])
    have hmx : ∀ y, mx = some y → σ'.ev y = σ.ev y := fun y hy => h.ev y (by simp [SOp.args, hy, optL])
    cases lo <;> cases hi <;> cases mx <;> simp [hlo, hhi, hmx]
  | fad ty i off x =>
    simp only [ev1]; rw [h.ev x (by simp [SOp.args])]
    split
    · rename_i k t o e; rw [(h.keys (x := x) (by simp [SOp.args]) k (keys_ref e)).2]
    · rfl
    · rename_i k t sz i j e; rw [(h.keys (x := x) (by simp [SOp.args]) k (keys_elw e)).2]
    · rfl
  | fld1 ty i off x => simp only [ev1]; rw [h.ev x (by simp [SOp.args])]
  | fldn ty i off m x => simp only [ev1]; rw [h.ev x (by simp [SOp.args])]
  | iad ty sz x i =>
    simp only [ev1]; rw [h.ev x (by simp [SOp.args]), h.ev i (by simp [SOp.args])]
    split
    · split
      · rename_i k t e; rw [(h.keys (x := x) (by simp [SOp.args]) k (keys_own e)).2, (h.keys (x := x) (by simp [SOp.args]) k (keys_own e)).1]
      all_goals rfl
    · rfl
  | ext x i => simp only [ev1]; rw [h.ev x (by simp [SOp.args])]
  | len ty x =>
    simp only [ev1]; rw [h.ev x (by simp [SOp.args])]
    split
    · rename_i k t e; rw [(h.keys (x := x) (by simp [SOp.args]) k (keys_own e)).2, (h.keys (x := x) (by simp [SOp.args]) k (keys_own e)).1]
    all_goals rfl
  | app ty sz bs x y =>
    simp only [ev1]; rw [h.ev x (by simp [SOp.args]), h.ev y (by simp [SOp.args]), elems_same (h.keys (by simp [SOp.args])), hk]
    split
    · split
      · rfl
      · rename_i k t e; rw [(h.keys (x := x) (by simp [SOp.args]) k (keys_own e)).2, (h.keys (x := x) (by simp [SOp.args]) k (keys_own e)).1]
      · rfl
    · rfl
  | best mx xs => simp only [ev1]; rw [h.map (xs := xs) (fun x hx => hx)]
  | call f xs => rfl

end Go.Abs
