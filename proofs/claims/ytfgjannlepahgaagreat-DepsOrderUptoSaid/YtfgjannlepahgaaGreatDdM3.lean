/- THIS TEXT TELLS SOME FUNCTIONS OF THE PROGRAM IN THE CALCULUS, PROVES BY THE KERNEL THAT WHAT IS TOLD IS THE LOADED CODE, AND PROVES WHAT THEY COMPUTE: for every argument that is told; the conditions stand in each theorem. -/
import Derived.Test.YtfgjannlepahgaaGreatDdM2
set_option linter.unusedVariables false
set_option linter.unusedSimpArgs false
namespace Go.Abs
open Go.Proofs

/-! ### the edges that name what is not there -/
structure F3 (n : Nat) (E : List Edge2) (σ : St) : Prop where
  s0 : σ.sl 0 = .c (.v (.int .i64 n))
  s1 : σ.sl 1 = .c (.sl 2 16 (ecs E))
  s5 : σ.sl 5 = .c (.sl 1 8 (ic (ord n E).1))
  s6 : σ.sl 6 = .c (.v (.int .i64 (ord n E).2))
def KP3 (σ σ' : St) : Prop := ∀ s, s = 0 ∨ s = 1 ∨ s = 5 ∨ s = 6 → σ'.sl s = σ.sl s
theorem F3.kp {n : Nat} {E : List Edge2} {σ σ' : St} (h : F3 n E σ) (k : KP3 σ σ') : F3 n E σ' :=
  ⟨by rw [k 0 (by simp)]; exact h.s0, by rw [k 1 (by simp)]; exact h.s1, by rw [k 5 (by simp)]; exact h.s5, by rw [k 6 (by simp)]; exact h.s6⟩

def RetT (Q : SEx → St → Prop) : Prop := ∀ σ', σ'.sl 4 = bb true → Q .ret σ'

theorem loop3a {σ : St} {Q : SEx → St → Prop} (n : Nat) (E : List Edge2) (hE : E.length ≤ 300) (H : F3 n E σ) (s7 : σ.sl 7 = .c (.v (.int .i64 (0 : Nat)))) (hR : RetT Q)
    (hQ : ∀ σ', F3 n E σ' → (∀ p, p ∈ E → badE n p = false) → Q .normal σ') : W Tryz.prog 1003000 (.loop c1003b0) σ (onBlock 0 Q) := by
  refine W_loop (fun m σ => ∃ i : Nat, i + m = E.length ∧ F3 n E σ ∧ σ.sl 7 = .c (.v (.int .i64 i)) ∧ (∀ p, p ∈ E.take i → badE n p = false)) E.length ⟨0, by simp, H, s7, by simp⟩ ?_
  clear H s7 σ
  rintro m σ ⟨i, hm, H, s7, hg⟩
  have s0 := H.s0
  have s1 := H.s1
  unfold c1003b0
  by_cases hi : i < E.length
  · have w1 := wrap_succ (i := i) (by omega)
    obtain ⟨p, hp1⟩ := at_of hi
    obtain ⟨_, hp2⟩ := getE hp1
    have htk := take_succ'' hp1
    by_cases hb : badE n p = true
    · have ho : ord n E = ([], 1) := by
        have : wrongE n E = true := by
          have : E.any (badE n) = true := List.any_eq_true.2 ⟨p, List.mem_of_getElem? hp1, hb⟩
          simp [wrongE, this]
        simp [ord, this]
      have s5 := H.s5
      have s6 := H.s6
      rw [ho] at s5 s6
      obtain ⟨a, b⟩ := p
      have fin : ∀ (σ' : St), σ'.sl 4 = bb true → Q .ret σ' := hR
      by_cases a1 : a < 0
      · simp [s0, s1, s5, s6, s7, hi, hp2, ec, a1]
        refine GCall.fn (fun _ => fn1013) (by simp) (by simp) rfl fun hx => ?_
        simp [bb]
        exact hR _ (by simp [bb])
      · by_cases a2 : (n : Int) ≤ a
        · simp [s0, s1, s5, s6, s7, hi, hp2, ec, a1, a2]
          refine GCall.fn (fun _ => fn1013) (by simp) (by simp) rfl fun hx => ?_
          simp [bb]
          exact hR _ (by simp [bb])
        · by_cases b1 : b < 0
          · simp [s0, s1, s5, s6, s7, hi, hp2, ec, a1, a2, b1]
            refine GCall.fn (fun _ => fn1013) (by simp) (by simp) rfl fun hx => ?_
            simp [bb]
            exact hR _ (by simp [bb])
          · have b2 : (n : Int) ≤ b := by simp [badE] at hb; omega
            simp [s0, s1, s5, s6, s7, hi, hp2, ec, a1, a2, b1, b2]
            refine GCall.fn (fun _ => fn1013) (by simp) (by simp) rfl fun hx => ?_
            simp [bb]
            exact hR _ (by simp [bb])
    · have hb' : badE n p = false := by simpa using hb
      obtain ⟨a, b⟩ := p
      simp [badE] at hb'
      have a1 : ¬ a < 0 := by omega
      have a2 : ¬ (n : Int) ≤ a := by omega
      have b1 : ¬ b < 0 := by omega
      have b2 : ¬ (n : Int) ≤ b := by omega
      simp [s0, s1, s7, hi, hp2, ec, a1, a2, b1, b2, w1, -Prod.forall]
      refine ⟨m - 1, by omega, i + 1, by omega, H.kp fun s hs => ?_, by simp, ?_⟩
      · rcases hs with rfl | rfl | rfl | rfl <;> simp
      · intro q hq
        rw [htk] at hq
        rcases List.mem_append.1 hq with hq | hq
        · exact hg q hq
        · simp at hq; subst hq; simp [badE]; omega
  · have : i = E.length := by omega
    subst this
    simp [s0, s1, s7]
    refine hQ _ (H.kp fun s hs => ?_) (by simpa using hg)
    rcases hs with rfl | rfl | rfl | rfl <;> simp

/-! ### where each one stands -/
def atL (n : Nat) (l : List Int) (i : Nat) : List Int := (List.range n).map fun (k : Nat) => if (k : Int) ∈ l.take i then plc l k else 0
def snL (n : Nat) (l : List Int) (i : Nat) : List Bool := (List.range n).map fun (k : Nat) => decide ((k : Int) ∈ l.take i)
def bc (l : List Bool) : List (List Cell) := l.map fun b => [Cell.v (.bool b)]
@[simp] theorem atL_length (n : Nat) (l : List Int) (i : Nat) : (atL n l i).length = n := by simp [atL]
@[simp] theorem snL_length (n : Nat) (l : List Int) (i : Nat) : (snL n l i).length = n := by simp [snL]
@[simp] theorem atL_at (n : Nat) (l : List Int) (i k : Nat) (h : k < (atL n l i).length) : (atL n l i)[k] = if (k : Int) ∈ l.take i then plc l k else 0 := by simp [atL]
@[simp] theorem snL_at (n : Nat) (l : List Int) (i k : Nat) (h : k < (snL n l i).length) : (snL n l i)[k] = decide ((k : Int) ∈ l.take i) := by simp [snL]
@[simp] theorem bc_length (l : List Bool) : (bc l).length = l.length := by simp [bc]
@[simp] theorem bc_at (l : List Bool) (k : Nat) (h : k < (bc l).length) : (bc l)[k] = [Cell.v (.bool (l[k]'(by simpa using h)))] := by simp [bc]
theorem atL_set {n : Nat} {l : List Int} {i k : Nat} (hn : l.Nodup) (h : l[i]? = some (k : Int)) : (atL n l i).set k (i : Int) = atL n l (i + 1) := by
  refine List.ext_getElem (by simp) fun j h1 h2 => ?_
  rw [List.getElem_set]
  have hp := plc_at hn h
  split
  · rename_i e; subst e; simp [take_succ'' h, hp]
  · rename_i e; simp [take_succ'' h, show ¬ (j : Int) = (k : Int) by omega]
theorem snL_set {n : Nat} {l : List Int} {i k : Nat} (h : l[i]? = some (k : Int)) : (snL n l i).set k true = snL n l (i + 1) := by
  refine List.ext_getElem (by simp) fun j h1 h2 => ?_
  rw [List.getElem_set]
  split
  · rename_i e; subst e; simp [take_succ'' h]
  · rename_i e; simp [take_succ'' h, show ¬ (j : Int) = (k : Int) by omega]
theorem bc_set (l : List Bool) (k : Nat) (b : Bool) : (bc l).set k [Cell.v (.bool b)] = bc (l.set k b) := by simp [bc]
theorem atL_zero (n : Nat) (l : List Int) : List.replicate n [Cell.v (.int .i64 0)] = ic (atL n l 0) := by
  refine List.ext_getElem (by simp) fun j h1 h2 => ?_
  simp
theorem snL_zero (n : Nat) (l : List Int) : List.replicate n [Cell.v (.bool false)] = bc (snL n l 0) := by
  refine List.ext_getElem (by simp) fun j h1 h2 => ?_
  simp

structure G3 (n : Nat) (E : List Edge2) (l : List Int) (i : Nat) (σ : St) : Prop where
  s0 : σ.sl 0 = .c (.v (.int .i64 n))
  s1 : σ.sl 1 = .c (.sl 2 16 (ecs E))
  s5 : σ.sl 5 = .c (.sl 1 8 (ic l))
  s8 : σ.sl 8 = .c (.own 1003090 (σ.tg 1003090))
  o8 : σ.ob 1003090 = some (.mrow 3 1 8 (ic (atL n l i)))
  s9 : σ.sl 9 = .c (.own 1003092 (σ.tg 1003092))
  o9 : σ.ob 1003092 = some (.mrow 4 1 1 (bc (snL n l i)))

theorem loop3b {σ : St} {Q : SEx → St → Prop} (n : Nat) (hn : n ≤ 200) (E : List Edge2) (l : List Int) (hl : l.length = n) (hd : l.Nodup) (hr : ∀ x, x ∈ l → 0 ≤ x ∧ x < n) (H : G3 n E l 0 σ) (s10 : σ.sl 10 = .c (.v (.int .i64 (0 : Nat))))
    (hQ : ∀ σ', G3 n E l n σ' → Q .normal σ') : W Tryz.prog 1003000 (.loop c1003b1) σ (onBlock 2 Q) := by
  refine W_loop (fun m σ => ∃ i : Nat, i + m = n ∧ G3 n E l i σ ∧ σ.sl 10 = .c (.v (.int .i64 i))) n ⟨0, by simp, H, s10⟩ ?_
  clear H s10 σ
  rintro m σ ⟨i, hm, ⟨s0, s1, s5, s8, o8, s9, o9⟩, s10⟩
  unfold c1003b1
  by_cases hi : i < n
  · have w1 := wrap_succ (i := i) (by omega)
    have hil : i < l.length := by omega
    obtain ⟨k, hk1⟩ := at_of hil
    obtain ⟨_, hk2⟩ := getE hk1
    have hkr := hr k (List.mem_of_getElem? hk1)
    obtain ⟨k, rfl⟩ := Int.eq_ofNat_of_zero_le hkr.1
    have hkn : k < n := by omega
    have c1 : ¬ (k : Int) < 0 := by omega
    have c2 : ¬ (n : Int) ≤ k := by omega
    have hnot : (k : Int) ∉ l.take i := fun h => by
      obtain ⟨j, hj⟩ := List.mem_iff_getElem?.1 h
      rw [List.getElem?_take] at hj
      split at hj
      · have q1 := plc_at hd hj
        have q2 := plc_at hd hk1
        omega
      · cases hj
    simp [s0, s1, s5, s8, o8, s9, o9, s10, hi, hil, hk2, hkn, c1, c2, hnot]
    refine W_dregD w1003_0 f1003_0 (by decide) ?_
    unfold w1003_0 f1003_0
    simp [s0, s1, s5, s8, o8, s9, o9, s10, hi, hil, hk2, hkn, c1, c2, hnot]
    refine realC_n ?_
    simp [s10, w1]
    have e2 : (bc (snL n l i)).set k [Cell.v (.bool true)] = bc (snL n l (i + 1)) := by rw [← snL_set hk1, bc_set]
    refine ⟨m - 1, by omega, i + 1, by omega, ⟨by simp [s0], by simp [s1], by simp [s5], by simp [s8], ?_, by simp [s9], ?_⟩, by simp⟩
    · simp [atL_set hd hk1]
    · simp [e2]
  · have : i = n := by omega
    subst this
    simp [s0, s1, s5, s8, o8, s9, o9, s10]
    exact hQ _ ⟨by simp [s0], by simp [s1], by simp [s5], by simp [s8], by simp [o8], by simp [s9], by simp [o9]⟩

def plL (n : Nat) (l : List Int) : List Int := (List.range n).map fun (k : Nat) => plc l k
@[simp] theorem plL_length (n : Nat) (l : List Int) : (plL n l).length = n := by simp [plL]
@[simp] theorem plL_at (n : Nat) (l : List Int) (k : Nat) (h : k < (plL n l).length) : (plL n l)[k] = plc l k := by simp [plL]
theorem atL_full {n : Nat} {l : List Int} (hl : l.length = n) (hf : ∀ k : Int, 0 ≤ k → k < n → k ∈ l) : atL n l n = plL n l := by
  refine List.ext_getElem (by simp) fun j h1 h2 => ?_
  simp at h1
  have := hf j (by omega) (by omega)
  rw [atL_at, plL_at, List.take_of_length_le (by omega), if_pos this]

structure H3 (n : Nat) (E : List Edge2) (l : List Int) (σ : St) : Prop where
  s0 : σ.sl 0 = .c (.v (.int .i64 n))
  s1 : σ.sl 1 = .c (.sl 2 16 (ecs E))
  s5 : σ.sl 5 = .c (.sl 1 8 (ic l))
  s8 : σ.sl 8 = .c (.own 1003090 (σ.tg 1003090))
  o8 : σ.ob 1003090 = some (.mrow 3 1 8 (ic (plL n l)))

theorem loop3c {σ : St} {Q : SEx → St → Prop} (n : Nat) (hn : n ≤ 200) (E : List Edge2) (hE : E.length ≤ 300) (l : List Int) (hg : ∀ p, p ∈ E → badE n p = false) (ha : ∀ p, p ∈ E → plc l p.1 < plc l p.2) (H : H3 n E l σ) (s11 : σ.sl 11 = .c (.v (.int .i64 (0 : Nat))))
    (hQ : ∀ σ', H3 n E l σ' → Q .normal σ') : W Tryz.prog 1003000 (.loop c1003b2) σ (onBlock 4 Q) := by
  refine W_loop (fun m σ => ∃ i : Nat, i + m = E.length ∧ H3 n E l σ ∧ σ.sl 11 = .c (.v (.int .i64 i))) E.length ⟨0, by simp, H, s11⟩ ?_
  clear H s11 σ
  rintro m σ ⟨i, hm, ⟨s0, s1, s5, s8, o8⟩, s11⟩
  unfold c1003b2
  by_cases hi : i < E.length
  · have w1 := wrap_succ (i := i) (by omega)
    obtain ⟨p, hp1⟩ := at_of hi
    obtain ⟨_, hp2⟩ := getE hp1
    have hb := hg p (List.mem_of_getElem? hp1)
    have hab := ha p (List.mem_of_getElem? hp1)
    obtain ⟨a, b⟩ := p
    simp [badE] at hb
    obtain ⟨a, rfl⟩ := Int.eq_ofNat_of_zero_le (a := a) (by omega)
    obtain ⟨b, rfl⟩ := Int.eq_ofNat_of_zero_le (a := b) (by omega)
    have han : a < n := by omega
    have hbn : b < n := by omega
    have hab' : ¬ plc l b ≤ plc l a := by simp at hab; omega
    simp [s0, s1, s5, s8, o8, s11, hi]
    refine W_dregA ?_
    simp [s0, s1, s5, s8, o8, s11, hi, hp2, ec, han, hbn, hab']
    refine realC_n ?_
    simp [s11, w1]
    exact ⟨m - 1, by omega, i + 1, by omega, ⟨by simp [s0], by simp [s1], by simp [s5], by simp [s8], by simp [o8]⟩, by simp⟩
  · have : i = E.length := by omega
    subst this
    simp [s0, s1, s5, s8, o8, s11]
    exact hQ _ ⟨by simp [s0], by simp [s1], by simp [s5], by simp [s8], by simp [o8]⟩

def tst (l : List Int) (i : Nat) (y : Int) (p : Edge2) : Bool := p.2 == y && decide ((i : Int) ≤ plc l p.1)
def anyT (E : List Edge2) (l : List Int) (i : Nat) (y : Int) : Bool := E.any (tst l i y)
theorem loop3d {σ : St} {Q : SEx → St → Prop} (n : Nat) (hn : n ≤ 200) (E : List Edge2) (hE : E.length ≤ 300) (l : List Int) (hg : ∀ p, p ∈ E → badE n p = false) (H : H3 n E l σ) (i j : Nat) (y : Int) (hy : l[j]? = some y) (s12 : σ.sl 12 = .c (.v (.int .i64 i))) (s13 : σ.sl 13 = .c (.v (.int .i64 j)))
    (s14 : σ.sl 14 = .c (.v (.bool false))) (s15 : σ.sl 15 = .c (.v (.int .i64 (0 : Nat))))
    (hQ : ∀ σ', H3 n E l σ' → σ'.sl 12 = .c (.v (.int .i64 i)) → σ'.sl 13 = .c (.v (.int .i64 j)) → σ'.sl 14 = .c (.v (.bool (anyT E l i y))) → Q .normal σ') : W Tryz.prog 1003000 (.loop c1003b3) σ (onBlock 10 Q) := by
  refine W_loop (fun m σ => ∃ k : Nat, k + m = E.length ∧ H3 n E l σ ∧ σ.sl 12 = .c (.v (.int .i64 i)) ∧ σ.sl 13 = .c (.v (.int .i64 j)) ∧ σ.sl 14 = .c (.v (.bool (anyT (E.take k) l i y))) ∧ σ.sl 15 = .c (.v (.int .i64 k))) E.length ⟨0, by simp, H, s12, s13, by simpa [anyT] using s14, s15⟩ ?_
  clear H s12 s13 s14 s15 σ
  obtain ⟨hjl, hy2⟩ := getE hy
  rintro m σ ⟨k, hm, ⟨s0, s1, s5, s8, o8⟩, s12, s13, s14, s15⟩
  unfold c1003b3
  by_cases hi : k < E.length
  · have w1 := wrap_succ (i := k) (by omega)
    obtain ⟨p, hp1⟩ := at_of hi
    obtain ⟨_, hp2⟩ := getE hp1
    have htk := take_succ'' hp1
    have hb := hg p (List.mem_of_getElem? hp1)
    obtain ⟨a, b⟩ := p
    simp [badE] at hb
    obtain ⟨a, rfl⟩ := Int.eq_ofNat_of_zero_le (a := a) (by omega)
    have han : a < n := by omega
    have hnx : anyT (E.take (k + 1)) l i y = (anyT (E.take k) l i y || tst l i y ((a : Int), b)) := by rw [anyT, htk, List.any_append]; simp [anyT]
    generalize anyT (E.take k) l i y = h at *
    simp [s0, s1, s5, s8, o8, s15, hi]
    refine W_dregA ?_
    cases h
    · by_cases hby : b = y
      · subst hby
        simp [s0, s1, s5, s8, o8, s12, s13, s14, s15, hi, hjl, hy2, hp2, ec, han]
        refine realC_n ?_
        simp [s15, w1]
        refine ⟨m - 1, by omega, k + 1, by omega, ⟨by simp [s0], by simp [s1], by simp [s5], by simp [s8], by simp [o8]⟩, by simp [s12], by simp [s13], ?_, by simp⟩
        rw [hnx]
        simp [tst]
      · simp [s0, s1, s5, s8, o8, s12, s13, s14, s15, hi, hjl, hy2, hp2, ec, han, hby]
        refine realC_n ?_
        simp [s15, w1]
        refine ⟨m - 1, by omega, k + 1, by omega, ⟨by simp [s0], by simp [s1], by simp [s5], by simp [s8], by simp [o8]⟩, by simp [s12], by simp [s13], ?_, by simp⟩
        rw [hnx]
        simp [tst, hby]
    · simp [s0, s1, s5, s8, o8, s12, s13, s14, s15, hi, hjl, hy2, hp2, ec, han]
      refine realC_n ?_
      simp [s15, w1]
      refine ⟨m - 1, by omega, k + 1, by omega, ⟨by simp [s0], by simp [s1], by simp [s5], by simp [s8], by simp [o8]⟩, by simp [s12], by simp [s13], ?_, by simp⟩
      rw [hnx]
      simp
  · have : k = E.length := by omega
    subst this
    simp [s0, s1, s5, s8, o8, s15]
    exact hQ _ ⟨by simp [s0], by simp [s1], by simp [s5], by simp [s8], by simp [o8]⟩ (by simp [s12]) (by simp [s13]) (by simpa using s14)

theorem loop3e {σ : St} {Q : SEx → St → Prop} (n : Nat) (hn : n ≤ 200) (E : List Edge2) (hE : E.length ≤ 300) (l : List Int) (hl : l.length = n) (hg : ∀ p, p ∈ E → badE n p = false) (i : Nat) (hi : i < n)
    (hb : ∀ (j : Nat) x y, i < j → l[i]? = some x → l[j]? = some y → y ≤ x → anyT E l i y = true) (H : H3 n E l σ) (s12 : σ.sl 12 = .c (.v (.int .i64 i))) (s13 : σ.sl 13 = .c (.v (.int .i64 (i + 1 : Nat))))
    (hQ : ∀ σ', H3 n E l σ' → σ'.sl 12 = .c (.v (.int .i64 i)) → Q .normal σ') : W Tryz.prog 1003000 (.loop c1003b4) σ (onBlock 8 Q) := by
  refine W_loop (fun m σ => ∃ j : Nat, j + m = n ∧ i < j ∧ H3 n E l σ ∧ σ.sl 12 = .c (.v (.int .i64 i)) ∧ σ.sl 13 = .c (.v (.int .i64 j))) (n - (i + 1)) ⟨i + 1, by omega, by omega, H, s12, s13⟩ ?_
  clear H s12 s13 σ
  rintro m σ ⟨j, hm, hij, ⟨s0, s1, s5, s8, o8⟩, s12, s13⟩
  unfold c1003b4
  by_cases hj : j < n
  · have w1 := wrap_succ (i := j) (by omega)
    obtain ⟨x, hx⟩ := at_of (ts := l) (i := i) (by omega)
    obtain ⟨y, hy⟩ := at_of (ts := l) (i := j) (by omega)
    obtain ⟨hil, hx2⟩ := getE hx
    obtain ⟨hjl, hy2⟩ := getE hy
    simp [s0, s1, s5, s8, o8, s12, s13, hj]
    refine W_dregA ?_
    by_cases hxy : x < y
    · simp [s0, s1, s5, s8, o8, s12, s13, hj, hil, hjl, hx2, hy2, hxy]
      refine realC_n ?_
      simp [s12, s13, w1]
      exact ⟨m - 1, by omega, j + 1, by omega, by omega, ⟨by simp [s0], by simp [s1], by simp [s5], by simp [s8], by simp [o8]⟩, by simp [s12]⟩
    · simp [s0, s1, s5, s8, o8, s12, s13, hj, hil, hjl, hx2, hy2, hxy]
      refine realC_n ?_
      simp [s12, s13]
      refine loop3d n hn E hE l hg ⟨by simp [s0], by simp [s1], by simp [s5], by simp [s8], by simp [o8]⟩ i j y hy (by simp [s12]) (by simp [s13]) (by simp) (by simp) fun σ' H' q12 q13 q14 => ?_
      rw [hb j x y hij hx hy (by omega)] at q14
      obtain ⟨s0, s1, s5, s8, o8⟩ := H'
      simp [q12, q13, q14, w1]
      exact ⟨m - 1, by omega, j + 1, by omega, by omega, ⟨by simp [s0], by simp [s1], by simp [s5], by simp [s8], by simp [o8]⟩, by simp [q12]⟩
  · have : j = n := by omega
    subst this
    simp [s0, s1, s5, s8, o8, s12, s13]
    exact hQ _ ⟨by simp [s0], by simp [s1], by simp [s5], by simp [s8], by simp [o8]⟩ (by simp [s12])

theorem loop3f {σ : St} {Q : SEx → St → Prop} (n : Nat) (hn : n ≤ 200) (E : List Edge2) (hE : E.length ≤ 300) (l : List Int) (hl : l.length = n) (hg : ∀ p, p ∈ E → badE n p = false)
    (hb : ∀ (i j : Nat) x y, i < j → l[i]? = some x → l[j]? = some y → y ≤ x → anyT E l i y = true) (H : H3 n E l σ) (s12 : σ.sl 12 = .c (.v (.int .i64 (0 : Nat))))
    (hQ : ∀ σ', H3 n E l σ' → Q .normal σ') : W Tryz.prog 1003000 (.loop c1003b5) σ (onBlock 6 Q) := by
  refine W_loop (fun m σ => ∃ i : Nat, i + m = n ∧ H3 n E l σ ∧ σ.sl 12 = .c (.v (.int .i64 i))) n ⟨0, by simp, H, s12⟩ ?_
  clear H s12 σ
  rintro m σ ⟨i, hm, ⟨s0, s1, s5, s8, o8⟩, s12⟩
  unfold c1003b5
  by_cases hi : i < n
  · have w1 := wrap_succ (i := i) (by omega)
    simp [s0, s1, s5, s8, o8, s12, hi, w1]
    refine loop3e n hn E hE l hl hg i hi (hb i) ⟨by simp [s0], by simp [s1], by simp [s5], by simp [s8], by simp [o8]⟩ (by simp [s12]) (by simp) fun σ' H' q12 => ?_
    obtain ⟨s0, s1, s5, s8, o8⟩ := H'
    simp [q12, w1]
    exact ⟨m - 1, by omega, i + 1, by omega, ⟨by simp [s0], by simp [s1], by simp [s5], by simp [s8], by simp [o8]⟩, by simp⟩
  · have : i = n := by omega
    subst this
    simp [s0, s1, s5, s8, o8, s12]
    exact hQ _ ⟨by simp [s0], by simp [s1], by simp [s5], by simp [s8], by simp [o8]⟩

theorem plc_lt {l : List Int} (hd : l.Nodup) {j : Nat} {a b : Int} (h : l[j]? = some b) (ha : a ∈ l.take j) : plc l a < plc l b := by
  obtain ⟨i, hi⟩ := List.mem_iff_getElem?.1 ha
  rw [List.getElem?_take] at hi
  split at hi
  · have q1 := plc_at hd hi
    have q2 := plc_at hd h
    omega
  · cases hi
theorem least_at {n : Nat} {E : List Edge2} (hg : ∀ p, p ∈ E → badE n p = false) (hf : (gr n E).length = n) : ∀ (i j : Nat) x y, i < j → (gr n E)[i]? = some x → (gr n E)[j]? = some y → y ≤ x → anyT E (gr n E) i y = true := by
  intro i j x y hij hx hy hyx
  have hd := (gr_run n E).nodup
  obtain ⟨-, -, hx2, -, hmin⟩ := nextG_is ((gr_run n E).at i x hx)
  have px := plc_at hd hx
  have py := plc_at hd hy
  have hne : y ≠ x := fun e => by subst e; omega
  have hyr := (gr_run n E).range y (List.mem_of_getElem? hy)
  have hyo : y ∉ (gr n E).take i := fun h => by
    obtain ⟨k, hk⟩ := List.mem_iff_getElem?.1 h
    rw [List.getElem?_take] at hk
    split at hk
    · have := plc_at hd hk; omega
    · cases hk
  have := hmin y hyr.1 (by omega) hyo
  rw [Ne, pre_zero] at this
  have : ∃ p, p ∈ E ∧ p.2 = y ∧ p.1 ∉ (gr n E).take i := by
    apply Classical.byContradiction
    intro h
    exact this fun p hp hp2 => Classical.byContradiction fun h2 => h ⟨p, hp, hp2, h2⟩
  obtain ⟨p, hp, hp2, hp1⟩ := this
  have hpr := hg p hp
  simp [badE] at hpr
  have hpm := full_mem hd (gr_run n E).range hf (k := p.1) (by omega) (by omega)
  obtain ⟨k, hk⟩ := List.mem_iff_getElem?.1 hpm
  have pk := plc_at hd hk
  refine List.any_eq_true.2 ⟨p, hp, ?_⟩
  simp [tst, hp2]
  by_cases hki : k < i
  · exact absurd (List.mem_iff_getElem?.2 ⟨k, by rw [List.getElem?_take, if_pos hki]; exact hk⟩) hp1
  · omega

theorem fn1003 (n0 : Int) (E : List Edge2) : Fn Tryz.prog 3 [ib n0, eds E] (bb true) := by
  refine fn_of (base := 1003000) ok1003 rfl fun σ h0 hr => ?_
  have s0 : σ.sl 0 = .c (.v (.int .i64 n0)) := h0 0
  have s1 : σ.sl 1 = .c (.sl 2 16 (ecs E)) := h0 1
  clear h0 hr
  unfold c1003
  by_cases c1 : 300 < E.length
  · have c1' : (300 : Int) < E.length := by omega
    simp [s0, s1, c1, c1', r1003, bb]
  · have c1' : ¬ (300 : Int) < E.length := by omega
    obtain ⟨n, hn, hn1⟩ : ∃ n : Nat, (n : Int) = (IntKind.wrap .u64 n0).tmod 60 ∧ n < 60 := by
      have h1 := u64_nonneg n0
      have h2 : (IntKind.wrap .u64 n0).tmod 60 = (IntKind.wrap .u64 n0) % 60 := Int.tmod_eq_emod_of_nonneg h1
      rw [h2]
      exact ⟨(IntKind.wrap .u64 n0 % 60).toNat, by omega, by omega⟩
    have w1 : IntKind.wrap .i64 ((IntKind.wrap .u64 n0).tmod 60) = n := by rw [← hn]; exact wrap_id (by omega) (by omega)
    simp [s0, s1, c1, c1', w1]
    refine ECall.fn (zn12 n E) (by simp [toD2, toD1, toD, eds, ib]) (by simp) rfl fun hx => ?_
    clear hx
    simp [ordAV, is, ib, s0, s1]
    refine loop3a n E (by omega) ⟨by simp, by simp [s1], by simp [ic], by simp⟩ (by simp) (fun σ' q4 => ?_) fun σ1 H1 hg => ?_
    · simp [q4, r1003, bb]
    clear s0 s1 σ
    obtain ⟨s0, s1, s5, s6⟩ := H1
    have hw : wrongE n E = false := by
      have h1 : E.any (badE n) = false := by
        rw [List.any_eq_false]
        intro p hp
        simp [hg p hp]
      simp only [wrongE, h1, Bool.or_false]
      simp; omega
    have ho := ord_eq hw
    simp only [Int.toNat_natCast] at ho
    by_cases hf : (gr n E).length < n
    · rw [if_pos hf] at ho
      rw [ho] at s5 s6
      simp [s0, s1, s5, s6]
      refine GCall.fn (fun _ => fn1013) (by simp) (by simp) rfl fun hx => ?_
      simp [bb, r1003]
    · rw [if_neg hf] at ho
      rw [ho] at s5 s6
      have hl : (gr n E).length = n := by have := gr_le n E; omega
      have hd := (gr_run n E).nodup
      have hr := (gr_run n E).range
      have hfm := fun (k : Int) (k0 : 0 ≤ k) (k1 : k < n) => full_mem hd hr hl k0 k1
      have hah : ∀ p, p ∈ E → plc (gr n E) p.1 < plc (gr n E) p.2 := fun p hp => by
        have hb := hg p hp
        simp [badE] at hb
        obtain ⟨j, hj⟩ := List.mem_iff_getElem?.1 (hfm p.2 (by omega) (by omega))
        exact plc_lt hd hj (gr_ahead hj p hp rfl)
      have hat := atL_full hl hfm
      have hle := least_at hg hl
      generalize gr n E = l at *
      simp only [] at s5 s6
      simp [s0, s1, s5, s6, hl]
      refine ⟨by simp [room]; omega, by simp [room]; omega, ?_⟩
      refine loop3b n (by omega) E l hl hd hr ⟨by simp [s0], by simp [s1], by simp [s5], by simp, by simp [atL_zero n l], by simp, by simp [snL_zero n l]⟩ (by simp) fun σ2 H2 => ?_
      clear s0 s1 s5 s6 σ1
      obtain ⟨s0, s1, s5, s8, o8, s9, o9⟩ := H2
      rw [hat] at o8
      simp
      refine loop3c n (by omega) E (by omega) l hg hah ⟨by simp [s0], by simp [s1], by simp [s5], by simp [s8], by simp [o8]⟩ (by simp) fun σ3 H3 => ?_
      clear s0 s1 s5 s8 o8 s9 o9 σ2
      obtain ⟨s0, s1, s5, s8, o8⟩ := H3
      simp
      refine loop3f n (by omega) E (by omega) l hl hg hle ⟨by simp [s0], by simp [s1], by simp [s5], by simp [s8], by simp [o8]⟩ (by simp) fun σ4 H4 => ?_
      simp
      refine ECall.fn fn1013 (by simp) (by simp) rfl fun hx => ?_
      simp [bb, r1003]

end Go.Abs
