/- THIS TEXT TELLS SOME FUNCTIONS OF THE PROGRAM IN THE CALCULUS, PROVES BY THE KERNEL THAT WHAT IS TOLD IS THE LOADED CODE, AND PROVES WHAT THEY COMPUTE: for every argument that is told; the conditions stand in each theorem. -/
import Derived.KernelRfl
import Derived.Test.YtfgjannlepahgaaGreatProg
import Derived.Shelf.SlicesE.Clone
import Derived.Test.YtfgjannlepahgaaGreatDhM2
set_option linter.unusedVariables false
set_option linter.unusedSimpArgs false
namespace Go.Abs
/-! ### heaps, in plain lists -/
def IsHeapN (n : Nat) (l : List Int) : Prop := ∀ k, 0 < k → k < n → l[(k - 1) / 2]! ≤ l[k]!
theorem swp_get (l : List Int) {i j : Nat} (hi : i < l.length) (hj : j < l.length) (k : Nat) : (swp l i j)[k]! = if k = j then l[i]! else if k = i then l[j]! else l[k]! := by
  simp only [swp, List.getElem!_eq_getElem?_getD, List.getElem?_set, List.length_set]
  by_cases h1 : k = j
  · subst h1; simp [hj]
  · by_cases h2 : k = i
    · subst h2; simp [hi, h1, Ne.symm h1]
    · simp [h1, h2, Ne.symm h1, Ne.symm h2]
theorem swp_perm (l : List Int) {i j : Nat} (hi : i < l.length) (hj : j < l.length) : (swp l i j).Perm l := by
  have : ((l.set i l[j]).set j l[i]).Perm l := List.set_set_perm hi hj
  simpa [swp, hi, hj] using this
theorem upL_perm (l : List Int) (j : Nat) (hj : j < l.length) : (upL l j).Perm l := by
  induction j using Nat.strongRecOn generalizing l with
  | ind j ih =>
    rw [upL]
    split
    · exact .refl _
    · split
      · exact (ih _ (by omega) _ (by simp; omega)).trans (swp_perm l (by omega) hj)
      · exact .refl _
theorem upL_heap (l : List Int) (j : Nat) (hj : j < l.length) (h1 : ∀ k, 0 < k → k < l.length → k ≠ j → l[(k - 1) / 2]! ≤ l[k]!)
    (h2 : 0 < j → ∀ k, 0 < k → k < l.length → (k - 1) / 2 = j → l[(j - 1) / 2]! ≤ l[k]!) : IsHeapN l.length (upL l j) := by
  induction j using Nat.strongRecOn generalizing l with
  | ind j ih =>
    rw [upL]
    split
    · intro k h0 hk
      exact h1 k h0 hk (by omega)
    · rename_i hj0
      obtain ⟨i, hi⟩ : ∃ i, i = (j - 1) / 2 := ⟨_, rfl⟩
      rw [← hi]
      split
      · rename_i hlt
        have hij : i < j := by omega
        have g := swp_get l (i := i) (j := j) (by omega) hj
        have := ih i hij (swp l i j) (by simp; omega) (fun k hk0 hk hki => ?_) (fun hi0 k hk0 hk hki => ?_)
        · simpa using this
        · simp only [swp_length] at hk
          rw [g, g]
          have hp : (k - 1) / 2 < k := by omega
          by_cases hkj : k = j
          · subst hkj
            rw [← hi]
            rw [if_neg (by omega), if_pos rfl, if_pos rfl]
            omega
          · rw [if_neg hkj, if_neg hki]
            by_cases hpj : (k - 1) / 2 = j
            · rw [if_pos hpj]
              have := h2 (by omega) k hk0 hk hpj
              rw [hi]; exact this
            · rw [if_neg hpj]
              by_cases hpi : (k - 1) / 2 = i
              · rw [if_pos hpi]
                have := h1 k hk0 hk hkj
                rw [hpi] at this
                omega
              · rw [if_neg hpi]
                exact h1 k hk0 hk hkj
        · simp only [swp_length] at hk
          have hii := h1 i hi0 (by omega) (by omega)
          rw [g, g]
          rw [if_neg (by omega), if_neg (by omega)]
          by_cases hkj : k = j
          · subst hkj
            rw [if_pos rfl]; exact hii
          · rw [if_neg hkj, if_neg (by omega)]
            have := h1 k hk0 hk hkj
            rw [hki] at this
            omega
      · rename_i hge
        intro k hk0 hk
        by_cases hkj : k = j
        · subst hkj; rw [← hi]; omega
        · exact h1 k hk0 hk hkj
theorem push_perm (l : List Int) (n : Int) : (pushL l n).Perm (l ++ [n]) := upL_perm _ _ (by simp)
theorem push_heap {l : List Int} (n : Int) (h : IsHeapN l.length l) : IsHeapN (pushL l n).length (pushL l n) := by
  have hg : ∀ k, k < l.length → (l ++ [n])[k]! = l[k]! := fun k hk => by
    simp only [List.getElem!_eq_getElem?_getD, List.getElem?_append_left hk]
  have := upL_heap (l ++ [n]) l.length (by simp) (fun k hk0 hk hkl => ?_) (fun h0 k hk0 hk hkl => ?_)
  · rw [show (pushL l n).length = (l ++ [n]).length from upL_length _ _]; exact this
  · simp at hk
    rw [hg _ (by omega), hg _ (by omega)]
    exact h k hk0 (by omega)
  · simp at hk; omega
theorem downL_perm (n : Nat) (l : List Int) (i : Nat) (hn : n ≤ l.length) : (downL n l i).1.Perm l := by
  induction h : n - i using Nat.strongRecOn generalizing l i with
  | ind m ih =>
    rw [downL]
    split
    · simp only
      obtain ⟨j, ej⟩ : ∃ j, j = if 2 * i + 2 < n ∧ l[2 * i + 2]! < l[2 * i + 1]! then 2 * i + 2 else 2 * i + 1 := ⟨_, rfl⟩
      rw [← ej]
      have hj : i < j ∧ j < n := by rw [ej]; split <;> omega
      split
      · exact (ih (n - j) (by omega) _ _ (by simpa using hn) rfl).trans (swp_perm l (by omega) (by omega))
      · exact .refl _
    · exact .refl _
theorem downL_keep (n : Nat) (l : List Int) (i : Nat) (hn : n ≤ l.length) (k : Nat) (hk : n ≤ k) : (downL n l i).1[k]! = l[k]! := by
  induction h : n - i using Nat.strongRecOn generalizing l i with
  | ind m ih =>
    rw [downL]
    split
    · simp only
      obtain ⟨j, ej⟩ : ∃ j, j = if 2 * i + 2 < n ∧ l[2 * i + 2]! < l[2 * i + 1]! then 2 * i + 2 else 2 * i + 1 := ⟨_, rfl⟩
      rw [← ej]
      have hj : i < j ∧ j < n := by rw [ej]; split <;> omega
      split
      · rw [ih (n - j) (by omega) _ _ (by simpa using hn) rfl, swp_get l (by omega) (by omega), if_neg (by omega), if_neg (by omega)]
      · rfl
    · rfl
theorem downL_heap (n : Nat) (l : List Int) (i : Nat) (hn : n ≤ l.length) (h1 : ∀ k, 0 < k → k < n → (k - 1) / 2 ≠ i → l[(k - 1) / 2]! ≤ l[k]!)
    (h2 : 0 < i → ∀ k, 0 < k → k < n → (k - 1) / 2 = i → l[(i - 1) / 2]! ≤ l[k]!) : IsHeapN n (downL n l i).1 := by
  induction h : n - i using Nat.strongRecOn generalizing l i with
  | ind m ih =>
    rw [downL]
    split
    · rename_i hc
      simp only
      obtain ⟨j, ej⟩ : ∃ j, j = if 2 * i + 2 < n ∧ l[2 * i + 2]! < l[2 * i + 1]! then 2 * i + 2 else 2 * i + 1 := ⟨_, rfl⟩
      rw [← ej]
      have hj : i < j ∧ j < n ∧ (j - 1) / 2 = i := by rw [ej]; split <;> omega
      -- the lesser child
      have hmin : ∀ k, 0 < k → k < n → (k - 1) / 2 = i → l[j]! ≤ l[k]! := fun k hk0 hk hki => by
        have : k = 2 * i + 1 ∨ k = 2 * i + 2 := by omega
        rw [ej]
        split
        · rename_i hh
          rcases this with rfl | rfl
          · omega
          · omega
        · rename_i hh
          rcases this with rfl | rfl
          · omega
          · have := fun h => hh ⟨hk, h⟩
            omega
      split
      · rename_i hlt
        have g := swp_get l (i := i) (j := j) (by omega) (by omega)
        refine ih (n - j) (by omega) _ _ (by simpa using hn) (fun k hk0 hk hkj => ?_) (fun hj0 k hk0 hk hkj => ?_) rfl
        · rw [g, g, if_neg hkj]
          by_cases hki : (k - 1) / 2 = i
          · rw [if_pos hki]
            by_cases e : k = j
            · rw [if_pos e]; omega
            · rw [if_neg e, if_neg (by omega)]; exact hmin k hk0 hk hki
          · rw [if_neg hki]
            by_cases e : k = j
            · exfalso; subst e; exact hki hj.2.2
            · rw [if_neg e]
              by_cases e2 : k = i
              · subst e2
                rw [if_pos rfl]
                exact h2 hk0 j (by omega) hj.2.1 hj.2.2
              · rw [if_neg e2]; exact h1 k hk0 hk hki
        · rw [hj.2.2]
          rw [g, g, if_neg (by omega), if_pos rfl, if_neg (by omega), if_neg (by omega)]
          have := h1 k hk0 hk (by omega)
          rw [hkj] at this
          exact this
      · rename_i hge
        intro k hk0 hk
        by_cases hki : (k - 1) / 2 = i
        · have := hmin k hk0 hk hki
          show l[(k - 1) / 2]! ≤ l[k]!
          rw [hki]
          omega
        · exact h1 k hk0 hk hki
    · rename_i hc
      intro k hk0 hk
      exact h1 k hk0 hk (by omega)
theorem heap_min {n : Nat} {l : List Int} (h : IsHeapN n l) : ∀ k, k < n → l[0]! ≤ l[k]! := by
  intro k
  induction k using Nat.strongRecOn with
  | ind k ih =>
    intro hk
    by_cases h0 : k = 0
    · subst h0; omega
    · have := h k (by omega) hk
      have := ih ((k - 1) / 2) (by omega) (by omega)
      omega
theorem get_dropLast {l : List Int} {k : Nat} (h : k < l.length - 1) : l.dropLast[k]! = l[k]! := by
  simp only [List.getElem!_eq_getElem?_getD]
  rw [List.getElem?_dropLast, if_pos h]
/-- The head is taken off: it is the least; what stays is a heap of the others. -/
theorem pop_spec {l : List Int} (h0 : 0 < l.length) (h : IsHeapN l.length l) :
    (popL l)[l.length - 1]! = l[0]! ∧ (∀ x, x ∈ l → l[0]! ≤ x) ∧ l.Perm (l[0]! :: (popL l).dropLast) ∧ IsHeapN (popL l).dropLast.length (popL l).dropLast := by
  have e1 : (popL l)[l.length - 1]! = l[0]! := by
    rw [popL, downL_keep _ _ _ (by simp) _ (Nat.le_refl _), swp_get l h0 (by omega), if_pos rfl]
  refine ⟨e1, fun x hx => ?_, ?_, ?_⟩
  · obtain ⟨k, hk, rfl⟩ := List.getElem_of_mem hx
    have := heap_min h k hk
    rwa [getElem!_pos l k hk] at this
  · have hp : (popL l).Perm l := (downL_perm _ _ _ (by simp)).trans (swp_perm l h0 (by omega))
    have hs := last_of (l := popL l) (by rw [popL_length]; exact h0)
    rw [popL_length, e1] at hs
    have : ((popL l).dropLast ++ [l[0]!]).Perm l := by rw [← hs]; exact hp
    exact this.symm.trans List.perm_append_comm
  · have hd : IsHeapN (l.length - 1) (popL l) := by
      refine downL_heap _ _ _ (by simp) (fun k hk0 hk hk2 => ?_) (fun h => absurd h (by omega))
      rw [swp_get l h0 (by omega), swp_get l h0 (by omega), if_neg (by omega), if_neg (by omega), if_neg (by omega), if_neg (by omega)]
      exact h k hk0 (by omega)
    intro k hk0 hk
    simp [popL_length] at hk
    rw [get_dropLast (by rw [popL_length]; omega), get_dropLast (by rw [popL_length]; omega)]
    exact hd k hk0 hk
end Go.Abs

namespace Go.Abs
/-! ### the least that may stand next, in plain lists -/
def nums (n : Nat) : List Int := (List.range n).map fun (i : Nat) => (i : Int)
theorem mem_nums {n : Nat} {k : Int} : k ∈ nums n ↔ 0 ≤ k ∧ k < n := by
  simp only [nums, List.mem_map, List.mem_range]
  constructor
  · rintro ⟨i, hi, rfl⟩; omega
  · rintro ⟨h1, h2⟩; exact ⟨k.toNat, by omega, by omega⟩
def pre (E : List Edge2) (out : List Int) (k : Int) : Nat := E.countP fun p => p.2 == k && !out.contains p.1
def rows (E : List Edge2) (k : Int) : List Int := (E.filter fun p => p.1 == k).map (·.2)
def nextG (n : Nat) (E : List Edge2) (out : List Int) : Option Int := (nums n).find? fun k => !out.contains k && pre E out k == 0
def greedy (n : Nat) (E : List Edge2) : Nat → List Int → List Int
  | 0, out => out
  | f + 1, out => match nextG n E out with
    | none => out
    | some k => greedy n E f (out ++ [k])
/-- Whether an edge names what is not there. -/
def wrongE (n : Int) (E : List Edge2) : Bool := decide (n < 0) || decide (200 < n) || decide (4000 < E.length) || E.any (badE n)
def ord (n : Int) (E : List Edge2) : List Int × Int :=
  if wrongE n E then ([], 1) else
    if (greedy n.toNat E n.toNat []).length < n.toNat then ([], 12) else (greedy n.toNat E n.toNat [], 0)
theorem nodup_le : ∀ {n : Nat} {l : List Int}, l.Nodup → (∀ x, x ∈ l → 0 ≤ x ∧ x < n) → l.length ≤ n
  | 0, l, _, h => by
    cases l with
    | nil => simp
    | cons x l => have := h x (by simp); omega
  | n + 1, l, hn, h => by
    have h1 := nodup_le (n := n) (l := l.erase (n : Int)) (hn.erase _) fun x hx => by
      have := (hn.mem_erase_iff).1 hx
      have := h x this.2
      have : x ≠ n := ‹x ≠ _ ∧ _›.1
      omega
    have h2 := List.length_erase_le (l := l) (a := (n : Int))
    by_cases hm : (n : Int) ∈ l
    · rw [List.length_erase_of_mem hm] at h1; omega
    · rw [List.erase_of_not_mem hm] at h1; omega
theorem pre_step (E : List Edge2) (out : List Int) (i k : Int) (hi : i ∉ out) : pre E out k = pre E (out ++ [i]) k + (rows E i).count k := by
  induction E with
  | nil => simp [pre, rows]
  | cons p E ih =>
    obtain ⟨a, b⟩ := p
    simp only [pre, rows, List.countP_cons, List.filter_cons] at ih ⊢
    by_cases ha : a = i
    · subst ha
      by_cases hb : b = k
      · subst hb; simp [hi] at ih ⊢; omega
      · have hb' : (b == k) = false := by simpa using hb
        simp [hi, hb'] at ih ⊢; rw [ih, List.count_cons_of_ne (by simpa using hb)]
    · have ha' : (a == i) = false := by simpa using ha
      simp [ha', ha] at ih ⊢
      omega
theorem nextG_some {n : Nat} {E : List Edge2} {out : List Int} {k : Int} (h0 : 0 ≤ k) (hn : k < n) (hk : k ∉ out) (hp : pre E out k = 0) (hl : ∀ j : Int, 0 ≤ j → j < k → j ∉ out → pre E out j ≠ 0) : nextG n E out = some k := by
  obtain ⟨m, rfl⟩ := Int.eq_ofNat_of_zero_le h0
  unfold nextG
  rw [List.find?_eq_some_iff_append]
  refine ⟨by simp [hk, hp], nums m, (List.range' (m + 1) (n - m - 1)).map fun (i : Nat) => (i : Int), ?_, fun j hj => ?_⟩
  · have : List.range n = List.range m ++ m :: List.range' (m + 1) (n - m - 1) := by
      have h1 : n = m + (1 + (n - m - 1)) := by omega
      conv => lhs; rw [h1]
      rw [List.range_eq_range', ← List.range'_append_1, List.range_eq_range', Nat.zero_add, Nat.add_comm 1, List.range'_succ]
    rw [nums, this]; simp [nums]
  · obtain ⟨j0, j1⟩ := mem_nums.1 hj
    by_cases hjo : j ∈ out
    · simp [hjo]
    · have := hl j j0 j1 hjo
      simp [hjo, this]
theorem nextG_none {n : Nat} {E : List Edge2} {out : List Int} (hl : ∀ j : Int, 0 ≤ j → j < n → j ∉ out → pre E out j ≠ 0) : nextG n E out = none := by
  unfold nextG
  rw [List.find?_eq_none]
  intro j hj
  obtain ⟨j0, j1⟩ := mem_nums.1 hj
  by_cases hjo : j ∈ out
  · simp [hjo]
  · have := hl j j0 j1 hjo
    simp [hjo, this]
/-- What the heap is, while edges are still to be taken off. -/
structure HI (n : Nat) (out : List Int) (cnt : Int → Nat) (h : List Int) : Prop where
  heap : IsHeapN h.length h
  nodup : h.Nodup
  mem : ∀ k, k ∈ h ↔ 0 ≤ k ∧ k < n ∧ k ∉ out ∧ cnt k = 0
theorem HI.len {n : Nat} {out : List Int} {cnt : Int → Nat} {h : List Int} (H : HI n out cnt h) : h.length ≤ n := nodup_le H.nodup fun x hx => by have := (H.mem x).1 hx; omega
theorem HI.push {n : Nat} {out : List Int} {cnt cnt' : Int → Nat} {h : List Int} (H : HI n out cnt h) {k : Int} (k0 : 0 ≤ k) (k1 : k < n) (ko : k ∉ out) (kc : cnt k ≠ 0) (kc' : cnt' k = 0) (ho : ∀ j, j ≠ k → cnt' j = cnt j) : HI n out cnt' (pushL h k) := by
  have hp := push_perm h k
  refine ⟨push_heap k H.heap, ?_, fun j => ?_⟩
  · rw [hp.nodup_iff, List.nodup_append]
    refine ⟨H.nodup, by simp, fun a ha b hb => ?_⟩
    simp at hb; subst hb
    intro e; subst e
    exact kc ((H.mem a).1 ha).2.2.2
  · rw [hp.mem_iff, List.mem_append, List.mem_singleton, H.mem]
    by_cases e : j = k
    · subst e; simp [k0, k1, ko, kc']
    · simp [e, ho j e]
theorem HI.less {n : Nat} {out : List Int} {cnt cnt' : Int → Nat} {h : List Int} (H : HI n out cnt h) {k : Int} (kc : cnt k ≠ 0) (kc' : cnt' k ≠ 0) (ho : ∀ j, j ≠ k → cnt' j = cnt j) : HI n out cnt' h :=
  ⟨H.heap, H.nodup, fun j => by
    rw [H.mem]
    by_cases e : j = k
    · subst e; simp [kc, kc']
    · rw [ho j e]⟩
/-- The head stands next. -/
theorem HI.pop {n : Nat} {out : List Int} {E : List Edge2} {h : List Int} (H : HI n out (pre E out) h) (h0 : 0 < h.length) (hz : ∀ x, x ∈ out → pre E out x = 0) :
    nextG n E out = some (popL h)[h.length - 1]! ∧ 0 ≤ (popL h)[h.length - 1]! ∧ (popL h)[h.length - 1]! < n ∧ (popL h)[h.length - 1]! ∉ out ∧
    HI n (out ++ [(popL h)[h.length - 1]!]) (fun k => pre E (out ++ [(popL h)[h.length - 1]!]) k + (rows E (popL h)[h.length - 1]!).count k) (popL h).dropLast ∧
    (∀ x, x ∈ out ++ [(popL h)[h.length - 1]!] → pre E (out ++ [(popL h)[h.length - 1]!]) x + (rows E (popL h)[h.length - 1]!).count x = 0) := by
  obtain ⟨p1, p2, p3, p4⟩ := pop_spec h0 H.heap
  rw [p1]
  generalize h[0]! = i at *
  have hi := (H.mem i).1 (p3.mem_iff.2 (by simp))
  have hnd := p3.nodup_iff.1 H.nodup
  refine ⟨nextG_some hi.1 hi.2.1 hi.2.2.1 hi.2.2.2 fun j j0 j1 jo jp => ?_, hi.1, hi.2.1, hi.2.2.1, ⟨p4, (List.nodup_cons.1 hnd).2, fun k => ?_⟩, fun x hx => ?_⟩
  · have := p2 j ((H.mem j).2 ⟨j0, by omega, jo, jp⟩); omega
  · rw [← pre_step E out i k hi.2.2.1]
    have hm : k ∈ h ↔ k = i ∨ k ∈ (popL h).dropLast := by rw [p3.mem_iff, List.mem_cons]
    by_cases e : k = i
    · subst e; simp [(List.nodup_cons.1 hnd).1]
    · have : k ∈ (popL h).dropLast ↔ k ∈ h := by rw [hm]; simp [e]
      rw [this, H.mem]; simp [e]
  · rw [← pre_step E out i x hi.2.2.1]
    rcases List.mem_append.1 hx with h | h
    · exact hz x h
    · simp at h; subst h; exact hi.2.2.2
/-- The counts, as a row. -/
def aL (n : Nat) (cnt : Int → Nat) : List Int := (List.range n).map fun (i : Nat) => ((cnt (i : Int) : Nat) : Int)
@[simp] theorem aL_length (n : Nat) (cnt : Int → Nat) : (aL n cnt).length = n := by simp [aL]
@[simp] theorem aL_at (n : Nat) (cnt : Int → Nat) (i : Nat) (h : i < (aL n cnt).length) : (aL n cnt)[i] = ((cnt (i : Int) : Nat) : Int) := by simp [aL]
theorem aL_set {n : Nat} {cnt cnt' : Int → Nat} {i : Nat} {v : Int} (hv : v = ((cnt' (i : Int) : Nat) : Int)) (ho : ∀ j : Nat, j ≠ i → cnt' (j : Int) = cnt (j : Int)) : (aL n cnt).set i v = aL n cnt' := by
  refine List.ext_getElem (by simp) fun j h1 h2 => ?_
  rw [List.getElem_set]
  split
  · rename_i e; subst e; simp [hv]
  · rename_i e; simp [ho j (Ne.symm e)]
end Go.Abs

namespace Go.Abs
open Go.Proofs
@[simp] theorem big_ne (k m : Nat) (h : m < 2000000) : (2000000 + k = m) = False := by simp; omega
@[simp] theorem big_ne' (k m : Nat) (h : m < 2000000) : (m = 2000000 + k) = False := by simp; omega
theorem putC_one : ∀ {l : List Cell} {a : Nat} (h : a < l.length) (y : Cell), putC l a [y] = l.set a y := by
  intro l a h y
  rw [List.set_eq_take_append_cons_drop, if_pos h]
  simp [putC]
structure Beh (σ : St) (n : Nat) (R : Int → List Int) : Prop where
  ex : ∃ cs : List Cell, σ.ob 1012038 = some (.box 24 cs) ∧ cs.length = n ∧ ∀ k : Nat, k < n → (cs[k]? = some (.cap 1 8 []) ∧ R k = []) ∨ (cs[k]? = some (.own (2000000 + k) (σ.tg (2000000 + k))) ∧ σ.ob (2000000 + k) = some (.row 3 1 8 (ic (R k))))
theorem Beh.mono {σ σ' : St} {n : Nat} {R : Int → List Int} (h : Beh σ n R) (ho : σ'.ob 1012038 = σ.ob 1012038) (hk : ∀ k, 2000000 ≤ k → σ'.ob k = σ.ob k ∧ σ'.tg k = σ.tg k) : Beh σ' n R := by
  obtain ⟨cs, h1, h2, h3⟩ := h.ex
  refine ⟨cs, by rw [ho]; exact h1, h2, fun k hkn => ?_⟩
  obtain ⟨q1, q2⟩ := hk (2000000 + k) (by omega)
  rw [q1, q2]
  exact h3 k hkn
/-- The edges are gone through: how many lean on each, what leans on each. -/
structure F0 (n : Nat) (E : List Edge2) (i : Nat) (σ : St) : Prop where
  s2 : σ.sl 2 = .c (.ref 1012002 (σ.tg 1012002) 0)
  o2 : σ.ob 1012002 = some (nbox n)
  s7 : σ.sl 7 = .c (.own 1012036 (σ.tg 1012036))
  o7 : σ.ob 1012036 = some (.mrow 3 1 8 (ic (aL n (pre (E.take i) []))))
  s8 : σ.sl 8 = .c (.sob 1012038 (σ.tg 1012038) n)
  beh : Beh σ n (rows (E.take i))
  s39 : σ.sl 39 = .c (.sl 2 16 (ecs E))
  s40 : σ.sl 40 = .c (.v (.int .i64 E.length))
  s41 : σ.sl 41 = .c (.v (.int .i64 i))
def w9 : List (List Nat) := [[], [], [], [], [], [], [], [], [], [], [], [1012063, 1012201], [], [1012038]]
def f9 : List (List Nat) := [[1012063, 1012201], [1012063, 1012201], [1012063, 1012201], [], [], [], [], [], [], [], [], [], [], []]
theorem take_succ' {α : Type} {l : List α} {i : Nat} {x : α} (h : l[i]? = some x) : l.take (i + 1) = l.take i ++ [x] := by rw [List.take_add_one, h]; rfl
theorem loop0 {σ : St} {Q : SEx → St → Prop} (n : Nat) (E : List Edge2) (hn : n ≤ 200) (hE : E.length ≤ 4000) (hb : ∀ p, p ∈ E → badE n p = false) (h0 : F0 n E 0 σ) (hQ : ∀ σ', F0 n E E.length σ' → Q .normal σ') :
    W Tryz.prog 1012000 (.loop c1012b0) σ (onBlock 0 Q) := by
  refine W_loop (fun m σ => ∃ i, i + m = E.length ∧ F0 n E i σ) E.length ⟨0, by simp, h0⟩ ?_
  clear h0 σ
  rintro m σ ⟨i, hm, H⟩
  obtain ⟨s2, o2, s7, o7, s8, beh, s39, s40, s41⟩ := H
  unfold c1012b0
  by_cases hi : i < E.length
  · have w1 := wrap_succ (i := i) (by omega)
    obtain ⟨p, hp1⟩ := at_of hi
    obtain ⟨_, hp2⟩ := getE hp1
    have hbp := hb p (List.mem_of_getElem? hp1)
    obtain ⟨pa, pb⟩ := p
    simp [badE] at hbp
    obtain ⟨a, rfl⟩ := Int.eq_ofNat_of_zero_le (a := pa) (by omega)
    obtain ⟨b, rfl⟩ := Int.eq_ofNat_of_zero_le (a := pb) (by omega)
    have ha : a < n := by omega
    have hbn : b < n := by omega
    have htk := take_succ' hp1
    obtain ⟨cs, h1, h2, h3⟩ := beh.ex
    have w2 : IntKind.wrap .i64 (((pre (E.take i) [] (b : Int) : Nat) : Int) + 1) = ((pre (E.take (i + 1)) [] (b : Int) : Nat) : Int) := by
      have : pre (E.take i) [] (b : Int) ≤ (E.take i).length := List.countP_le_length
      have : (E.take i).length ≤ 4000 := by simp; omega
      rw [wrap_id (by omega) (by omega), htk]
      simp [pre, List.countP_append]
    have hset : (aL n (pre (E.take i) [])).set b ((pre (E.take (i + 1)) [] (b : Int) : Nat) : Int) = aL n (pre (E.take (i + 1)) []) := aL_set rfl fun j hj => by
      rw [htk]; simp [pre, List.countP_append]; omega
    simp [s2, o2, s7, o7, s8, s39, s40, s41, hi, hp2, ec, ha, hbn, w2, hset, h1]
    refine W_cut (fun σ' => σ'.sl 2 = .c (.ref 1012002 (σ'.tg 1012002) 0) ∧ σ'.ob 1012002 = some (nbox n) ∧ σ'.sl 7 = .c (.own 1012036 (σ'.tg 1012036)) ∧ σ'.ob 1012036 = some (.mrow 3 1 8 (ic (aL n (pre (E.take (i + 1)) [])))) ∧
        σ'.sl 8 = .c (.sob 1012038 (σ'.tg 1012038) n) ∧ σ'.sl 39 = .c (.sl 2 16 (ecs E)) ∧ σ'.sl 40 = .c (.v (.int .i64 E.length)) ∧ σ'.sl 41 = .c (.v (.int .i64 i)) ∧ σ'.sl 10 = .c (.ref 1012010 (σ'.tg 1012010) 0) ∧
        σ'.ob 1012010 = some (.box 28 [.v (.int .i64 a), .v (.int .i64 b)]) ∧ σ'.ob 1012038 = some (.box 24 (cs.set a (.own 1012201 (σ'.tg 1012201)))) ∧ σ'.ob 1012201 = some (.row 3 1 8 (ic (rows (E.take i) a))) ∧
        ∀ k : Nat, k < n → k ≠ a → (cs[k]? = some (.cap 1 8 []) ∧ rows (E.take i) k = []) ∨ (cs[k]? = some (.own (2000000 + k) (σ'.tg (2000000 + k))) ∧ σ'.ob (2000000 + k) = some (.row 3 1 8 (ic (rows (E.take i) k))))) ?_ ?_
    · rcases h3 a ha with ⟨c1, c2⟩ | ⟨c1, c2⟩
      · refine W_adb (B := 1012038) (tb := 24) (cs := cs) (i := a) (K := 1012201) (ty := 3) (sz := 1) (bs := 8) (es := []) (by simp [h1]) c1 (by decide) ?_
        simp [s2, o2, s7, o7, s8, s39, s40, s41, c2, show ic [] = [] from rfl]
        exact fun k hk hka => h3 k hk
      · refine W_stl (B := 1012038) (tb := 24) (cs := cs) (i := a) (k := 2000000 + a) (t := σ.tg (2000000 + a)) (K := 1012201) (q := .row 3 1 8 (ic (rows (E.take i) a))) (by simp [h1]) c1 (by simp) (by simp [c2]) rfl (by decide) ?_
        simp [s2, o2, s7, o7, s8, s39, s40, s41]
        intro k hk hka
        rcases h3 k hk with h | h
        · exact .inl h
        · exact .inr ⟨h.1, by simp [hka, h.2]⟩
    · clear s2 o2 s7 o7 s8 s39 s40 s41 beh h3 h1
      rintro σ1 ⟨s2, o2, s7, o7, s8, s39, s40, s41, s10, o10, oB, oT, h3⟩
      clear σ
      simp
      refine W_dregD w9 f9 (by decide) ?_
      unfold w9 f9
      have hcs : (cs.set a (.own 1012201 (σ1.tg 1012201)))[a]? = some (.own 1012201 (σ1.tg 1012201)) := by simp [h2, ha]
      simp [s2, o2, s7, o7, s8, s39, s40, s41, s10, o10, oB, oT, ha, hcs, h2, show a + 1 ≤ n from ha, putC_one (l := cs.set a (.own 1012201 (σ1.tg 1012201))) (a := a) (by simp [h2, ha])]
      have hrl : (rows (E.take i) (a : Int)).length ≤ 4000 := by
        have h1 : (rows (E.take i) (a : Int)).length ≤ (E.take i).length := by simp only [rows, List.length_map]; exact List.length_filter_le _ _
        have h2 : (E.take i).length ≤ 4000 := by simp; omega
        omega
      refine ⟨by simp [room], by simp [room]; omega, realC_n ?_⟩
      simp
      refine W_stl (B := 1012038) (tb := 24) (cs := cs.set a (.own 1012063 (σ1.tg 1012063 + 1))) (i := a) (k := 1012063) (t := σ1.tg 1012063 + 1) (K := 2000000 + a) (q := .row 3 1 8 (ic (rows (E.take (i + 1)) a))) (by simp) (by simp [h2, ha]) (by simp) (by simp [htk, rows, ic]) rfl (by simp) ?_
      simp [s41, w1]
      refine ⟨m - 1, by omega, i + 1, by omega, ⟨by simp [s2], by simp [o2], by simp [s7], by simp [o7], by simp [s8], ⟨cs.set a (.own (2000000 + a) (σ1.tg (2000000 + a) + 1)), by simp, by simp [h2], fun k hk => ?_⟩, by simp [s39], by simp [s40], by simp⟩⟩
      by_cases hka : k = a
      · subst hka
        right
        simp [h2, ha]
      · have hr : rows (E.take (i + 1)) (k : Int) = rows (E.take i) (k : Int) := by rw [htk]; simp [rows]; omega
        rw [hr]
        simp [hka, Ne.symm hka]
        exact h3 k hk hka
  · have : i = E.length := by omega
    subst this
    simp [s2, o2, s7, o7, s8, s39, s40, s41]
    exact hQ _ ⟨by simp [s2], by simp [o2], by simp [s7], by simp [o7], by simp [s8], beh.mono (by simp) (by simp), by simp [s39], by simp [s40], by simp [s41]⟩
end Go.Abs

namespace Go.Abs
open Go.Proofs
structure HS (σ : St) (h : List Int) : Prop where
  oB : σ.ob 1012067 = some (hbox (σ.tg 1012200))
  oK : σ.ob 1012200 = some (hrow h) ∨ (σ.ob 1012200 = some (.row 3 1 8 []) ∧ h = [])
theorem HS.mono {σ σ' : St} {h : List Int} (H : HS σ h) (h1 : σ'.ob 1012067 = σ.ob 1012067) (h2 : σ'.ob 1012200 = σ.ob 1012200) (h3 : σ'.tg 1012200 = σ.tg 1012200) : HS σ' h := ⟨by rw [h1, h3]; exact H.oB, by rw [h2]; exact H.oK⟩
def pushed (σ : St) (d : Nat) (h : List Int) (k : Int) : St := (σ.hp 1012067 56 1012200 1 (hrow (pushL h k))).set d (.tup [])
theorem push_call {σ : St} {h : List Int} {d : Nat} {k : Int} {Kc : St → Prop} (H : HS σ h) (hl : h.length < 999999) (hK : Kc (pushed σ d h k)) :
    ECall Tryz.prog σ (.c (.clo 30 [] [])) [.c (.ifc 55 1012067 (σ.tg 1012067)), .c (.v (.iface 3 (.int .i64 k)))] (some d) Kc := by
  rcases H.oK with oK | ⟨oK, rfl⟩
  · exact ECall.hp (r := 1) (args := [ifB (σ.tg 1012067), ifI k]) (zp30 (σ.tg 1012067) (σ.tg 1012200) h k hl) (by simp [toD2, toD1, toD, ifI, ifB]) (by simp) rfl (.inr rfl) (by decide) rfl H.oB rfl oK rfl fun _ => hK
  · exact ECall.hp (r := 1) (args := [ifB (σ.tg 1012067), ifI k]) (zp30n (σ.tg 1012067) (σ.tg 1012200) k) (by simp [toD2, toD1, toD, ifI, ifB]) (by simp) rfl (.inr rfl) (by decide) rfl H.oB rfl oK rfl fun _ => hK
theorem pushed_HS {σ : St} {d : Nat} {h : List Int} {k : Int} : HS (pushed σ d h k) (pushL h k) := ⟨by simp [pushed, hbox], .inl (by simp [pushed])⟩
@[simp] theorem pushed_sl (σ : St) (d : Nat) (h : List Int) (k : Int) (s : Nat) : (pushed σ d h k).sl s = if s = d then .tup [] else σ.sl s := rfl
theorem pushed_ob (σ : St) (d : Nat) (h : List Int) (k : Int) (x : Nat) (h1 : x ≠ 1012067) (h2 : x ≠ 1012200) : (pushed σ d h k).ob x = σ.ob x := by simp [pushed, h1, h2]
theorem pushed_tg (σ : St) (d : Nat) (h : List Int) (k : Int) (x : Nat) (h2 : x ≠ 1012200) : (pushed σ d h k).tg x = σ.tg x := by simp [pushed, h2]
/-- What lies there behind the edges. -/
structure F1 (n : Nat) (E : List Edge2) (cnt : Int → Nat) (h : List Int) (σ : St) : Prop where
  s2 : σ.sl 2 = .c (.ref 1012002 (σ.tg 1012002) 0)
  o2 : σ.ob 1012002 = some (nbox n)
  s7 : σ.sl 7 = .c (.own 1012036 (σ.tg 1012036))
  o7 : σ.ob 1012036 = some (.mrow 3 1 8 (ic (aL n cnt)))
  s8 : σ.sl 8 = .c (.sob 1012038 (σ.tg 1012038) n)
  beh : Beh σ n (rows E)
  s11 : σ.sl 11 = .c (.ref 1012067 (σ.tg 1012067) 0)
  hs : HS σ h
theorem F1.mono {n : Nat} {E : List Edge2} {cnt : Int → Nat} {h : List Int} {σ σ' : St} (H : F1 n E cnt h σ) (hs : ∀ s, s = 2 ∨ s = 7 ∨ s = 8 ∨ s = 11 → σ'.sl s = σ.sl s) (ho : ∀ k, σ'.ob k = σ.ob k) (ht : ∀ k, σ'.tg k = σ.tg k) : F1 n E cnt h σ' :=
  ⟨by rw [hs 2 (by simp), ht]; exact H.s2, by rw [ho]; exact H.o2, by rw [hs 7 (by simp), ht]; exact H.s7, by rw [ho]; exact H.o7, by rw [hs 8 (by simp), ht]; exact H.s8, H.beh.mono (ho _) (fun k _ => ⟨ho k, ht k⟩), by rw [hs 11 (by simp), ht]; exact H.s11, H.hs.mono (ho _) (ho _) (ht _)⟩
theorem F1.pushed {n : Nat} {E : List Edge2} {cnt : Int → Nat} {h : List Int} {σ : St} (H : F1 n E cnt h σ) (d : Nat) (k : Int) (hd : d ≠ 2 ∧ d ≠ 7 ∧ d ≠ 8 ∧ d ≠ 11) : F1 n E cnt (pushL h k) (pushed σ d h k) := by
  obtain ⟨d2, d7, d8, d11⟩ := hd
  refine ⟨?_, ?_, ?_, ?_, ?_, H.beh.mono (pushed_ob _ _ _ _ _ (by decide) (by decide)) (fun x hx => ⟨pushed_ob _ _ _ _ _ (by omega) (by omega), pushed_tg _ _ _ _ _ (by omega)⟩), ?_, pushed_HS⟩
  · rw [pushed_sl, if_neg (Ne.symm d2), pushed_tg _ _ _ _ _ (by decide)]; exact H.s2
  · rw [pushed_ob _ _ _ _ _ (by decide) (by decide)]; exact H.o2
  · rw [pushed_sl, if_neg (Ne.symm d7), pushed_tg _ _ _ _ _ (by decide)]; exact H.s7
  · rw [pushed_ob _ _ _ _ _ (by decide) (by decide)]; exact H.o7
  · rw [pushed_sl, if_neg (Ne.symm d8), pushed_tg _ _ _ _ _ (by decide)]; exact H.s8
  · rw [pushed_sl, if_neg (Ne.symm d11), pushed_tg _ _ _ _ _ (by decide)]; exact H.s11
theorem push_F1 {n : Nat} {E : List Edge2} {cnt : Int → Nat} {σ : St} {h : List Int} {d : Nat} {k : Int} {Kc : St → Prop} (H : F1 n E cnt h σ) (hl : h.length < 999999) (hd : d ≠ 2 ∧ d ≠ 7 ∧ d ≠ 8 ∧ d ≠ 11)
    (hK : ∀ σ', F1 n E cnt (pushL h k) σ' → (∀ s, s ≠ d → σ'.sl s = σ.sl s) → (∀ x, x ≠ 1012067 → x ≠ 1012200 → σ'.ob x = σ.ob x ∧ σ'.tg x = σ.tg x) → Kc σ') :
    ECall Tryz.prog σ (.c (.clo 30 [] [])) [.c (.ifc 55 1012067 (σ.tg 1012067)), .c (.v (.iface 3 (.int .i64 k)))] (some d) Kc :=
  push_call H.hs hl (hK _ (H.pushed d k hd) (fun s hs => by rw [pushed_sl, if_neg hs]) fun x h1 h2 => ⟨pushed_ob _ _ _ _ _ h1 h2, pushed_tg _ _ _ _ _ h2⟩)
/-- The numbers that nothing stands ahead of. -/
theorem loop1 {σ : St} {Q : SEx → St → Prop} (n : Nat) (E : List Edge2) (cnt : Int → Nat) (hn : n ≤ 200) (hc : ∀ k, cnt k ≤ 4000) (h0 : F1 n E cnt [] σ) (s68 : σ.sl 68 = .c (.v (.int .i64 n))) (s69 : σ.sl 69 = .c (.v (.int .i64 (0 : Nat))))
    (hQ : ∀ σ' h, F1 n E cnt h σ' → HI n [] cnt h → Q .normal σ') : W Tryz.prog 1012000 (.loop c1012b1) σ (onBlock 2 Q) := by
  refine W_loop (fun m σ => ∃ (i : Nat) (h : List Int), i + m = n ∧ F1 n E cnt h σ ∧ σ.sl 68 = .c (.v (.int .i64 n)) ∧ σ.sl 69 = .c (.v (.int .i64 i)) ∧ HI n [] (fun k => if k < i then cnt k else 1) h) n ⟨0, [], by simp, h0, s68, s69, ⟨fun k h1 h2 => by simp at h2, by simp, fun k => by
    by_cases h : k < 0
    · simp [h]; intro h1; omega
    · simp [h]⟩⟩ ?_
  clear h0 s68 s69 σ
  rintro m σ ⟨i, h, hm, H, s68, s69, hi⟩
  have H' := H
  obtain ⟨s2, o2, s7, o7, s8, beh, s11, hs⟩ := H'
  unfold c1012b1
  by_cases hin : i < n
  · have w1 := wrap_succ (i := i) (by omega)
    by_cases hz : cnt (i : Int) = 0
    · simp [s2, o2, s7, o7, s8, s11, s68, s69, hin, hz]
      refine push_F1 (n := n) (E := E) (cnt := cnt) (h := h) (H.mono (fun s hs => ?_) (fun k => ?_) (fun k => ?_)) (by have := hi.len; omega) (by decide) fun σ' H' e1 e2 => ?_
      · rcases hs with rfl | rfl | rfl | rfl <;> simp
      · simp
      · simp
      have q68 : σ'.sl 68 = .c (.v (.int .i64 n)) := by rw [e1 68 (by decide)]; simp [s68]
      have q69 : σ'.sl 69 = .c (.v (.int .i64 i)) := by rw [e1 69 (by decide)]; simp [s69]
      simp [q68, q69, w1]
      refine ⟨m - 1, by omega, i + 1, by omega, pushL h i, H'.mono (fun s hs => ?_) (fun k => ?_) (fun k => ?_), by simp, hi.push (by omega) (by omega) (by simp) (by simp) (by simp [show (i : Int) < (i : Int) + 1 by omega]; exact hz) fun j hj => ?_⟩
      · rcases hs with rfl | rfl | rfl | rfl <;> simp
      · simp
      · simp
      · have : (j < (i : Int) + 1) ↔ (j < (i : Int)) := by omega
        simp [this]
    · have hz' : ¬ ((cnt (i : Int) : Nat) : Int) = 0 := by omega
      simp [s2, o2, s7, o7, s8, s11, s68, s69, hin, hz, hz', w1]
      refine ⟨m - 1, by omega, i + 1, by omega, h, H.mono (fun s hs => ?_) (fun k => ?_) (fun k => ?_), by simp, hi.less (k := (i : Int)) (by simp) (by simp [show (i : Int) < (i : Int) + 1 by omega]; exact hz) fun j hj => ?_⟩
      · rcases hs with rfl | rfl | rfl | rfl <;> simp
      · simp
      · simp
      · have : (j < (i : Int) + 1) ↔ (j < (i : Int)) := by omega
        simp [this]
  · have : i = n := by omega
    subst this
    simp [s2, o2, s7, o7, s8, s11, s68, s69]
    refine hQ _ h (H.mono (by rintro s (rfl | rfl | rfl | rfl) <;> simp) (by simp) (by simp)) ⟨hi.heap, hi.nodup, fun k => ?_⟩
    rw [hi.mem]
    by_cases hk : k < (i : Int)
    · simp [hk]
    · simp [hk]
      try omega
end Go.Abs

namespace Go.Abs
open Go.Proofs
theorem pop_F1 {n : Nat} {E : List Edge2} {cnt : Int → Nat} {σ : St} {h : List Int} {d : Nat} {Kc : St → Prop} (H : F1 n E cnt h σ) (h0 : 0 < h.length) (hl : h.length < 999999) (hd : d ≠ 2 ∧ d ≠ 7 ∧ d ≠ 8 ∧ d ≠ 11)
    (hK : ∀ σ', F1 n E cnt (popL h).dropLast σ' → σ'.sl d = ifI (popL h)[h.length - 1]! → (∀ s, s ≠ d → σ'.sl s = σ.sl s) → (∀ x, x ≠ 1012067 → x ≠ 1012200 → σ'.ob x = σ.ob x ∧ σ'.tg x = σ.tg x) → Kc σ') :
    ECall Tryz.prog σ (.c (.clo 32 [] [])) [.c (.ifc 55 1012067 (σ.tg 1012067))] (some d) Kc := by
  have oK : σ.ob 1012200 = some (hrow h) := by
    rcases H.hs.oK with h1 | ⟨_, h2⟩
    · exact h1
    · subst h2; simp at h0
  refine ECall.hp (r := 1) (q' := hrow (popL h).dropLast) (args := [ifB (σ.tg 1012067)]) (zp32 (σ.tg 1012067) (σ.tg 1012200) h h0 hl) (by simp [toD2, toD1, toD, ifB]) (by simp) rfl (.inr rfl) (by decide) rfl H.hs.oB rfl oK rfl fun _ => ?_
  obtain ⟨d2, d7, d8, d11⟩ := hd
  have ob : ∀ x, x ≠ 1012067 → x ≠ 1012200 → (((σ.hp 1012067 56 1012200 1 (hrow (popL h).dropLast)).set d (ifI (popL h)[h.length - 1]!)).ob x = σ.ob x ∧ ((σ.hp 1012067 56 1012200 1 (hrow (popL h).dropLast)).set d (ifI (popL h)[h.length - 1]!)).tg x = σ.tg x) := fun x h1 h2 => by simp [h1, h2]
  refine hK _ ⟨?_, ?_, ?_, ?_, ?_, H.beh.mono (ob _ (by decide) (by decide)).1 (fun x hx => ob _ (by omega) (by omega)), ?_, ⟨by simp [hbox], .inl (by simp)⟩⟩ (by simp) (fun s hs => by simp [hs]) ob
  · rw [set_sl, if_neg (Ne.symm d2), (ob _ (by decide) (by decide)).2]; exact H.s2
  · rw [(ob _ (by decide) (by decide)).1]; exact H.o2
  · rw [set_sl, if_neg (Ne.symm d7), (ob _ (by decide) (by decide)).2]; exact H.s7
  · rw [(ob _ (by decide) (by decide)).1]; exact H.o7
  · rw [set_sl, if_neg (Ne.symm d8), (ob _ (by decide) (by decide)).2]; exact H.s8
  · rw [set_sl, if_neg (Ne.symm d11), set_tg, hp_tg, if_neg (by decide)]; exact H.s11
/-- The heap's length. -/
theorem len_F1 {σ : St} {h : List Int} {d : Nat} {Kc : St → Prop} (H : HS σ h) (hK : Kc (σ.set d (ib h.length))) :
    ECall Tryz.prog σ (.c (.clo 31 [] [])) [.c (.own 1012200 (σ.tg 1012200))] (some d) Kc := by
  rcases H.oK with oK | ⟨oK, rfl⟩
  · exact ECall.ro (rs := []) (args := [.c (.own 1012200 (σ.tg 1012200))]) [(1012200, σ.tg 1012200, hrow h)] (by simpa [refs] using zp31 (σ.tg 1012200) h) (by simp [toD2, toD1, toD, oK, hrow]) (by simp) rfl (Ro.one oK rfl rfl) fun _ => hK
  · exact ECall.fn (args := [is []]) (zn31 []) (by simp [toD2, toD1, toD, oK, is]) (by simp) rfl fun _ => hK
/-- What stays while the edges of one number are taken off. -/
structure F2 (n : Nat) (E : List Edge2) (out : List Int) (i : Nat) (cnt : Int → Nat) (h : List Int) (σ : St) : Prop where
  f1 : F1 n E cnt h σ
  s13 : σ.sl 13 = .c (.own 1012100 (σ.tg 1012100))
  o13 : σ.ob 1012100 = some (.row 3 1 8 (ic out))
  s104 : σ.sl 104 = .c (.own (2000000 + i) (σ.tg (2000000 + i)))
  o104 : σ.ob (2000000 + i) = some (.row 3 1 8 (ic (rows E i)))
  s105 : σ.sl 105 = .c (.v (.int .i64 (rows E i).length))
theorem F2.mono {n : Nat} {E : List Edge2} {out : List Int} {i : Nat} {cnt : Int → Nat} {h : List Int} {σ σ' : St} (H : F2 n E out i cnt h σ) (hs : ∀ s, s = 2 ∨ s = 7 ∨ s = 8 ∨ s = 11 ∨ s = 13 ∨ s = 104 ∨ s = 105 → σ'.sl s = σ.sl s) (ho : ∀ k, σ'.ob k = σ.ob k) (ht : ∀ k, σ'.tg k = σ.tg k) : F2 n E out i cnt h σ' :=
  ⟨H.f1.mono (fun s h => hs s (by rcases h with h | h | h | h <;> simp [h])) ho ht, by rw [hs 13 (by simp), ht]; exact H.s13, by rw [ho]; exact H.o13, by rw [hs 104 (by simp), ht]; exact H.s104, by rw [ho]; exact H.o104, by rw [hs 105 (by simp)]; exact H.s105⟩
theorem loop2 {σ : St} {Q : SEx → St → Prop} (n : Nat) (E : List Edge2) (out : List Int) (i : Nat) (hn : n ≤ 200) (hE : E.length ≤ 4000) (hb : ∀ p, p ∈ E → badE n p = false) (h : List Int)
    (h0 : F2 n E out i (fun k => pre E out k + (rows E i).count k) h σ) (s106 : σ.sl 106 = .c (.v (.int .i64 (0 : Nat)))) (hi : HI n out (fun k => pre E out k + (rows E i).count k) h) (hz : ∀ x, x ∈ out → pre E out x + (rows E i).count x = 0)
    (hQ : ∀ σ' h, F2 n E out i (pre E out) h σ' → HI n out (pre E out) h → Q .normal σ') : W Tryz.prog 1012000 (.loop c1012b2) σ (onBlock 6 Q) := by
  refine W_loop (fun m σ => ∃ (j : Nat) (h : List Int), j + m = (rows E i).length ∧ F2 n E out i (fun k => pre E out k + ((rows E i).drop j).count k) h σ ∧ σ.sl 106 = .c (.v (.int .i64 j)) ∧ HI n out (fun k => pre E out k + ((rows E i).drop j).count k) h ∧ ∀ x, x ∈ out → pre E out x + ((rows E i).drop j).count x = 0) (rows E i).length ⟨0, h, by simp, by simpa using h0, s106, by simpa using hi, by simpa using hz⟩ ?_
  clear h0 s106 hi hz h σ
  rintro m σ ⟨j, h, hm, H, s106, hi, hz⟩
  have hrl : (rows E (i : Int)).length ≤ 4000 := by
    have h1 : (rows E (i : Int)).length ≤ E.length := by simp only [rows, List.length_map]; exact List.length_filter_le _ _
    omega
  unfold c1012b2
  have s105 := H.s105
  by_cases hj : j < (rows E i).length
  · have w1 := wrap_succ (i := j) (by omega)
    obtain ⟨kI, hk1⟩ := at_of hj
    obtain ⟨_, hk2⟩ := getE hk1
    have hkm : kI ∈ rows E i := List.mem_of_getElem? hk1
    obtain ⟨p, hp1, hp2⟩ := List.mem_map.1 hkm
    have hbp := hb p (List.mem_filter.1 hp1).1
    simp [badE] at hbp
    obtain ⟨k, rfl⟩ := Int.eq_ofNat_of_zero_le (a := kI) (by omega)
    have hkn : k < n := by omega
    have hdr := drop_at hk1
    -- the counts, one edge less
    have hc : ∀ x : Int, pre E out x + ((rows E i).drop j).count x = pre E out x + ((rows E i).drop (j + 1)).count x + if x = k then 1 else 0 := fun x => by
      rw [hdr]
      by_cases e : x = k
      · subst e; simp; omega
      · rw [List.count_cons_of_ne (Ne.symm e)]; simp [e]
    have hck : pre E out (k : Int) + ((rows E i).drop j).count (k : Int) = pre E out (k : Int) + ((rows E i).drop (j + 1)).count (k : Int) + 1 := by simpa using hc k
    have hno : (k : Int) ∉ out := fun h => by have := hz k h; omega
    have hlt : pre E out (k : Int) + ((rows E i).drop j).count (k : Int) ≤ 8000 := by
      have h1 : pre E out (k : Int) ≤ E.length := List.countP_le_length
      have h2 : ((rows E i).drop j).count (k : Int) ≤ ((rows E i).drop j).length := List.count_le_length
      simp at h2
      omega
    obtain ⟨c1, hc1⟩ : ∃ c1 : Int → Nat, c1 = fun k => pre E out k + ((rows E i).drop (j + 1)).count k := ⟨_, rfl⟩
    generalize hc0 : (fun k => pre E out k + ((rows E i).drop j).count k) = c0 at H hi
    have e0 : ∀ x, c0 x = c1 x + if x = k then 1 else 0 := fun x => by rw [← hc0, hc1]; exact hc x
    have ek : c0 (k : Int) = c1 (k : Int) + 1 := by simpa using e0 k
    have ekl : c0 (k : Int) ≤ 8000 := by rw [← hc0]; exact hlt
    have en : ∀ x : Int, x ≠ k → c1 x = c0 x := fun x hx => by have := e0 x; rw [if_neg hx] at this; exact this.symm
    have hz2 : ∀ x, x ∈ out → pre E out x + ((rows E i).drop (j + 1)).count x = 0 := fun x hx => by have := hz x hx; have := hc x; omega
    clear hc hck hlt hz e0 hc0
    obtain ⟨⟨s2, o2, s7, o7, s8, beh, s11, hs⟩, s13, o13, s104, o104, s105⟩ := H
    have w2 : IntKind.wrap .i64 (((c0 (k : Int) : Nat) : Int) - 1) = ((c1 (k : Int) : Nat) : Int) := by rw [wrap_id (by omega) (by omega)]; omega
    have hset : (aL n c0).set k ((c1 (k : Int) : Nat) : Int) = aL n c1 := aL_set rfl fun x hx => en x (by omega)
    by_cases hz0 : c1 (k : Int) = 0
    · have hset0 : (aL n c0).set k 0 = aL n c1 := by rw [← hset, hz0]; rfl
      simp [s2, o2, s7, o7, s8, s11, s13, o13, s104, o104, s105, s106, hj, hk2, hkn, w2, hset0, hz0]
      refine push_F1 (n := n) (E := E) (cnt := c1) (h := h) ⟨by simp [s2], by simp [o2], by simp [s7], by simp, by simp [s8], beh.mono (by simp) (fun x hx => by have h1 : x ≠ 1012036 := (by omega); simp [h1]), by simp [s11], hs.mono (by simp) (by simp) (by simp)⟩ (by have := hi.len; omega) (by decide) fun σ' H' e1 e2 => ?_
      have q106 : σ'.sl 106 = .c (.v (.int .i64 j)) := by rw [e1 106 (by decide)]; simp [s106]
      simp [q106, w1]
      refine ⟨m - 1, by omega, j + 1, by omega, pushL h k, ?_, by simp, ?_, fun x hx => by have := hz2 x hx; omega⟩
      · rw [← hc1]
        refine F2.mono (σ := σ') ⟨H', by rw [e1 13 (by decide), (e2 1012100 (by decide) (by decide)).2]; simp [s13], by rw [(e2 1012100 (by decide) (by decide)).1]; simp [o13], by rw [e1 104 (by decide), (e2 (2000000 + i) (by omega) (by omega)).2]; simp [s104], by rw [(e2 (2000000 + i) (by omega) (by omega)).1]; simp [o104], by rw [e1 105 (by decide)]; simp [s105]⟩ (fun s hs => ?_) (fun k => ?_) (fun k => ?_)
        · rcases hs with rfl | rfl | rfl | rfl | rfl | rfl | rfl <;> simp
        · simp
        · simp
      · rw [← hc1]
        exact hi.push (by omega) (by omega) hno (by omega) hz0 en
    · have hz' : ¬ ((c1 (k : Int) : Nat) : Int) = 0 := by omega
      simp [s2, o2, s7, o7, s8, s11, s13, o13, s104, o104, s105, s106, hj, hk2, hkn, w2, hset, hz', w1, hz0]
      refine ⟨m - 1, by omega, j + 1, by omega, h, ?_, by simp, ?_, fun x hx => by have := hz2 x hx; omega⟩
      · rw [← hc1]
        exact ⟨⟨by simp [s2], by simp [o2], by simp [s7], by simp, by simp [s8], beh.mono (by simp) (fun x hx => by have h1 : x ≠ 1012036 := (by omega); simp [h1]), by simp [s11], hs.mono (by simp) (by simp) (by simp)⟩, by simp [s13], by simp [o13], by simp [s104], by simp [o104], by simp [s105]⟩
      · rw [← hc1]
        exact hi.less (k := (k : Int)) (by omega) hz0 en
  · have : j = (rows E i).length := by omega
    subst this
    simp at H hi
    simp [s105, s106]
    refine hQ _ h (H.mono (fun s hs => ?_) (fun k => ?_) (fun k => ?_)) hi
    · rcases hs with rfl | rfl | rfl | rfl | rfl | rfl | rfl <;> simp
    · simp
    · simp
end Go.Abs

namespace Go.Abs
open Go.Proofs
def OutSt (out : List Int) (σ : St) : Prop := (σ.sl 13 = .c (.cap 1 8 []) ∧ out = []) ∨ (σ.sl 13 = .c (.own 1012100 (σ.tg 1012100)) ∧ σ.ob 1012100 = some (.row 3 1 8 (ic out)))
theorem loop3 {σ : St} {Q : SEx → St → Prop} (n : Nat) (E : List Edge2) (hn : n ≤ 200) (hE : E.length ≤ 4000) (hb : ∀ p, p ∈ E → badE n p = false) (h : List Int)
    (h0 : F1 n E (pre E []) h σ) (s13 : σ.sl 13 = .c (.cap 1 8 [])) (hi : HI n [] (pre E []) h)
    (hQ : ∀ σ', σ'.sl 2 = .c (.ref 1012002 (σ'.tg 1012002) 0) → σ'.ob 1012002 = some (nbox n) → OutSt (greedy n E n []) σ' → (greedy n E n []).length ≤ n → Q .normal σ') : W Tryz.prog 1012000 (.loop c1012b3) σ (onBlock 4 Q) := by
  refine W_loop (fun m σ => ∃ (out h : List Int), m = n - out.length ∧ F1 n E (pre E out) h σ ∧ OutSt out σ ∧ HI n out (pre E out) h ∧ (∀ x, x ∈ out → pre E out x = 0) ∧ out.Nodup ∧ (∀ x, x ∈ out → 0 ≤ x ∧ x < n) ∧ greedy n E m out = greedy n E n []) n ⟨[], h, rfl, h0, .inl ⟨s13, rfl⟩, hi, by simp, by simp, by simp, rfl⟩ ?_
  clear h0 s13 hi h σ
  rintro m σ ⟨out, h, hm, H, ho, hi, hz, hnd, hr, hg⟩
  have hlen := nodup_le hnd hr
  obtain ⟨s2, o2, s7, o7, s8, beh, s11, hs⟩ := H
  have H : F1 n E (pre E out) h σ := ⟨s2, o2, s7, o7, s8, beh, s11, hs⟩
  unfold c1012b3
  have oB := hs.oB
  simp [s2, o2, s7, o7, s8, s11, oB, hbox]
  refine len_F1 (h := h) (hs.mono (by simp) (by simp) (by simp)) ?_
  by_cases h0 : 0 < h.length
  · obtain ⟨p1, p2, p3, p4, p5, p6⟩ := hi.pop h0 hz
    simp [ib, h0, s11]
    refine pop_F1 (n := n) (E := E) (cnt := pre E out) (h := h) (H.mono (fun s hs => ?_) (fun k => ?_) (fun k => ?_)) h0 (by have := hi.len; omega) (by decide) fun σ1 H1 e0 e1 e2 => ?_
    · rcases hs with rfl | rfl | rfl | rfl <;> simp
    · simp
    · simp
    have ho1 : OutSt out σ1 := by
      rcases ho with ⟨q1, q2⟩ | ⟨q1, q2⟩
      · exact .inl ⟨by rw [e1 13 (by decide)]; simp [q1], q2⟩
      · exact .inr ⟨by rw [e1 13 (by decide), (e2 1012100 (by decide) (by decide)).2]; simp [q1], by rw [(e2 1012100 (by decide) (by decide)).1]; simp [q2]⟩
    clear e1 e2 s2 o2 s7 o7 s8 beh s11 hs H oB ho
    generalize (popL h)[h.length - 1]! = iI at *
    obtain ⟨i, rfl⟩ := Int.eq_ofNat_of_zero_le p2
    have hin : i < n := by omega
    clear σ
    simp [e0, ifI, -W_seq]
    rw [W_seq, W_seq]
    simp [-W_seq]
    rw [W_seq]
    refine W_cut (fun σ => F1 n E (pre E out) (popL h).dropLast σ ∧ σ.sl 14 = .c (.v (.int .i64 i)) ∧ σ.sl 13 = .c (.own 1012100 (σ.tg 1012100)) ∧ σ.ob 1012100 = some (.row 3 1 8 (ic (out ++ [(i : Int)])))) ?_ ?_
    · have hol : (out.length + 1) * 8 ≤ room := by simp [room]; omega
      have F : ∀ σ2 : St, (∀ s, s = 2 ∨ s = 7 ∨ s = 8 ∨ s = 11 → σ2.sl s = σ1.sl s) → (∀ k, k ≠ 1012100 → σ2.ob k = σ1.ob k ∧ σ2.tg k = σ1.tg k) → F1 n E (pre E out) (popL h).dropLast σ2 := fun σ2 q1 q2 => by
        obtain ⟨s2, o2, s7, o7, s8, beh, s11, hs⟩ := H1
        exact ⟨by rw [q1 2 (by simp), (q2 _ (by decide)).2]; exact s2, by rw [(q2 _ (by decide)).1]; exact o2, by rw [q1 7 (by simp), (q2 _ (by decide)).2]; exact s7, by rw [(q2 _ (by decide)).1]; exact o7, by rw [q1 8 (by simp), (q2 _ (by decide)).2]; exact s8, beh.mono (q2 _ (by decide)).1 (fun x hx => q2 x (by omega)), by rw [q1 11 (by simp), (q2 _ (by decide)).2]; exact s11, hs.mono (q2 _ (by decide)).1 (q2 _ (by decide)).1 (q2 _ (by decide)).2⟩
      rcases ho1 with ⟨q1, rfl⟩ | ⟨q1, q2⟩
      · simp [q1]
        refine ⟨by simp [room], F _ (fun s hs => ?_) (fun k hk => ?_), by simp [ic]⟩
        · rcases hs with rfl | rfl | rfl | rfl <;> simp
        · simp [hk]
      · simp [q1, q2]
        refine ⟨by simp [room], by simpa using hol, F _ (fun s hs => ?_) (fun k hk => ?_), by simp [ic]⟩
        · rcases hs with rfl | rfl | rfl | rfl <;> simp
        · simp [hk]
    · rintro σ2 ⟨H2, s14, s13, o13⟩
      clear e0 ho1 H1 σ1
      simp
      refine W_cut (fun σ => F1 n E (pre E out) (popL h).dropLast σ ∧ σ.sl 14 = .c (.v (.int .i64 i)) ∧ σ.sl 13 = .c (.own 1012100 (σ.tg 1012100)) ∧ σ.ob 1012100 = some (.row 3 1 8 (ic (out ++ [(i : Int)]))) ∧
          ∃ cs : List Cell, σ.ob 1012038 = some (.box 24 cs) ∧ cs.length = n ∧ cs[i]? = some (.own (2000000 + i) (σ.tg (2000000 + i))) ∧ σ.ob (2000000 + i) = some (.row 3 1 8 (ic (rows E i)))) ?_ ?_
      · obtain ⟨cs, h1, h2, h3⟩ := H2.beh.ex
        rcases h3 i hin with ⟨c1, c2⟩ | ⟨c1, c2⟩
        · refine W_adb (B := 1012038) (tb := 24) (cs := cs) (i := i) (K := 2000000 + i) (ty := 3) (sz := 1) (bs := 8) (es := []) (by simp [h1]) c1 (by simp) ?_
          simp [s14, s13, o13, c2, h2, hin]
          refine ⟨?_, rfl⟩
          obtain ⟨s2, o2, s7, o7, s8, beh, s11, hs⟩ := H2
          refine ⟨by simp [s2], by simp [o2], by simp [s7], by simp [o7], by simp [s8], ⟨cs.set i (.own (2000000 + i) (σ2.tg (2000000 + i) + 1)), by simp, by simp [h2], fun k hk => ?_⟩, by simp [s11], hs.mono (by simp) (by simp) (by simp)⟩
          by_cases hki : k = i
          · subst hki
            right
            simp [h2, hk, c2, show ic [] = [] from rfl]
          · simp [hki, Ne.symm hki]
            exact h3 k hk
        · refine W_gh (.refl _) ?_
          exact ⟨H2, s14, s13, o13, cs, h1, h2, c1, c2⟩
      · rintro σ3 ⟨H3, s14, s13, o13, cs, h1, h2, c1, c2⟩
        have s8 := H3.s8
        obtain ⟨_, c1'⟩ := getE c1
        simp [s14, s13, s8, h1, h2, c1', c2, hin]
        have hfun : pre E out = fun k => pre E (out ++ [(i : Int)]) k + (rows E (i : Int)).count k := funext fun k => pre_step E out i k p4
        have hout : (out ++ [(i : Int)]).Nodup := by
          rw [List.nodup_append]
          exact ⟨hnd, by simp, fun a ha b hb => by simp at hb; subst hb; intro e; subst e; exact p4 ha⟩
        have hrange : ∀ x, x ∈ out ++ [(i : Int)] → 0 ≤ x ∧ x < n := fun x hx => by
          rcases List.mem_append.1 hx with h | h
          · exact hr x h
          · simp at h; omega
        have hlen2 := nodup_le hout hrange
        simp at hlen2
        refine loop2 n E (out ++ [(i : Int)]) i hn hE hb (popL h).dropLast ?_ (by simp) p5 p6 fun σ' h' H' hi' => ?_
        · rw [← hfun]
          exact ⟨H3.mono (fun s hs => by rcases hs with rfl | rfl | rfl | rfl <;> simp) (by simp) (by simp), by simp [s13], by simp [o13], by simp, by simp [c2], by simp⟩
        · simp
          refine ⟨m - 1, by omega, out ++ [(i : Int)], by simp; omega, h', H'.f1, .inr ⟨H'.s13, H'.o13⟩, hi', fun x hx => ?_, hout, fun x hx => hrange x (by simpa using hx), ?_⟩
          · have := p6 x (by simpa using hx); omega
          · obtain ⟨m', rfl⟩ : ∃ m', m = m' + 1 := ⟨m - 1, by omega⟩
            rw [greedy, p1] at hg
            exact hg
  · have h0' : h = [] := by cases h with | nil => rfl | cons x l => simp at h0
    subst h0'
    have hfin : greedy n E m out = out := by
      cases m with
      | zero => rfl
      | succ m =>
        rw [greedy, nextG_none fun j j0 j1 jo jp => ?_]
        have := (hi.mem j).2 ⟨j0, j1, jo, jp⟩
        simp at this
    simp [ib]
    rw [hfin] at hg
    refine hQ _ (by simp [s2]) (by simp [o2]) ?_ (by rw [← hg]; exact hlen)
    rw [← hg]
    rcases ho with ⟨q1, q2⟩ | ⟨q1, q2⟩
    · exact .inl ⟨by simp [q1], q2⟩
    · exact .inr ⟨by simp [q1], by simp [q2]⟩
end Go.Abs

namespace Go.Abs
open Go.Proofs
theorem aL_zero (k : Nat) : List.replicate k [Cell.v (.int .i64 0)] = ic (aL k (pre [] [])) := by
  refine List.ext_getElem (by simp) fun j h1 h2 => ?_
  simp [pre]
theorem beh_zero {σ : St} {k : Nat} (h : σ.ob 1012038 = some (.box 24 (List.replicate k (.cap 1 8 [])))) : Beh σ k (rows []) := ⟨_, h, by simp, fun j hj => .inl ⟨by simp [hj], rfl⟩⟩
def ordAV (n : Int) (E : List Edge2) : AV := .tup [is (ord n E).1, ib (ord n E).2]
theorem zn12 (n : Int) (E : List Edge2) : Fn Tryz.prog 12 [ib n, eds E] (ordAV n E) := by
  refine fn_of (base := 1012000) ok1012 rfl fun σ h0 hr => ?_
  have s0 : σ.sl 0 = .c (.v (.int .i64 n)) := h0 0
  have s1 : σ.sl 1 = .c (.sl 2 16 (ecs E)) := h0 1
  have hEl := real_eds (hr (eds E) (by simp))
  clear h0 hr
  unfold c1012
  have bad : wrongE n E = true → ord n E = ([], 1) := fun h => by simp [ord, h]
  by_cases c1 : n < 0
  · have hw : wrongE n E = true := by simp [wrongE, c1]
    simp [s0, s1, c1]
    refine GCall.fn (res := bb false) (fun h => by cases h) rfl (by simp) rfl fun _ => ?_
    simp [ordAV, bad hw, r1012, is, ib, bb]
  · by_cases c2 : 200 < n
    · have hw : wrongE n E = true := by simp [wrongE, c2]
      simp [s0, s1, c1, c2]
      refine GCall.fn (res := bb false) (fun h => by cases h) rfl (by simp) rfl fun _ => ?_
      simp [ordAV, bad hw, r1012, is, ib, bb]
    · by_cases c3 : 4000 < E.length
      · have hw : wrongE n E = true := by simp [wrongE, c3]
        have c3' : (4000 : Int) < E.length := by omega
        simp [s0, s1, c1, c2, c3, c3']
        refine GCall.fn (res := bb false) (fun h => by cases h) rfl (by simp) rfl fun _ => ?_
        simp [ordAV, bad hw, r1012, is, ib, bb]
      · have c3' : ¬ (4000 : Int) < E.length := by omega
        simp [s0, s1, c1, c2, c3, c3']
        refine GCall.ro (rs := []) (args := [eds E, .c (.clo 28 [] [(1012002, σ.tg 1012002 + 1)])]) [(1012002, σ.tg 1012002 + 1, nbox n)] (fun _ => by simpa [refs] using zp29 (σ.tg 1012002 + 1) n E) (by simp [toD2, toD1, toD, eds]) (by simp) rfl (Ro.one (by simp [nbox]) (by simp) rfl) fun _ => ?_
        by_cases c4 : E.any (badE n) = true
        · have hw : wrongE n E = true := by simp only [wrongE, c4, Bool.or_true]
          rw [c4]
          simp [ordAV, bad hw, r1012, is, ib, bb]
        · have c4 : E.any (badE n) = false := by simpa using c4
          rw [c4]
          have hw : wrongE n E = false := by simp only [wrongE, c4, Bool.or_false]; simp [c1, c2, c3]
          obtain ⟨k, rfl⟩ := Int.eq_ofNat_of_zero_le (a := n) (by omega)
          have hk : k ≤ 200 := by omega
          simp [bb]
          refine W_dregD w1012_0 f1012_0 (by decide) ?_
          unfold w1012_0 f1012_0
          simp [s0, s1]
          refine ⟨by simp [room]; omega, by simp [room]; omega, realC_n ?_⟩
          simp [s0, s1]
          have hb : ∀ p, p ∈ E → badE k p = false := fun p hp => by
            have := List.any_eq_false.1 c4 p hp
            simpa using this
          refine loop0 k E hk (by omega) hb ⟨by simp, by simp [nbox], by simp, by simp [aL_zero], by simp, beh_zero (by simp), by simp, by simp, by simp⟩ fun σ1 H1 => ?_
          clear s0 s1 σ
          obtain ⟨s2, o2, s7, o7, s8, beh, s39, s40, s41⟩ := H1
          simp only [List.take_length] at o7 beh
          simp [s2, o2, s7, o7, s8]
          refine W_adb (B := 1012067) (tb := 56) (cs := [.cap 1 8 []]) (i := 0) (K := 1012200) (ty := 3) (sz := 1) (bs := 8) (es := []) (by simp) rfl (by decide) ?_
          simp [s2, o2, s7, o7, s8, nbox]
          refine loop1 k E (pre E []) hk (fun x => Nat.le_trans List.countP_le_length (by omega)) ⟨by simp [s2], by simp [o2, nbox], by simp [s7], by simp [o7], by simp [s8], beh.mono (by simp) (fun x hx => by have h1 : x ≠ 1012067 := (by omega); have h2 : x ≠ 1012200 := (by omega); simp [h1, h2]), by simp, ⟨by simp [hbox], .inr ⟨by simp, rfl⟩⟩⟩ (by simp) (by simp) fun σ2 h H2 hi => ?_
          clear s2 o2 s7 o7 s8 beh s39 s40 s41 σ1
          simp
          refine loop3 k E hk (by omega) hb h (H2.mono (fun s hs => by rcases hs with rfl | rfl | rfl | rfl <;> simp) (by simp) (by simp)) (by simp) hi fun σ3 s2 o2 ho hgl => ?_
          clear H2 hi σ2
          have hord : ord k E = if (greedy k E k []).length < k then ([], 12) else (greedy k E k [], 0) := by simp [ord, hw]
          rcases ho with ⟨s13, hg⟩ | ⟨s13, o13⟩
          · rw [hg] at hord
            by_cases hk0 : 0 < k
            · simp [s13, s2, o2, nbox, hk0, ordAV, hord, r1012, is, ib]
            · simp [s13, s2, o2, nbox, hk0, ordAV, hord, r1012, is, ib]
          · by_cases hlk : (greedy k E k []).length < k
            · simp [s13, o13, s2, o2, nbox, hlk, ordAV, hord, r1012, is, ib]
            · simp [s13, o13, s2, o2, nbox, hlk, ordAV, hord, r1012, is, ib, ic]
end Go.Abs

namespace Go.Abs
/- porism/porismlaw21.DepsOrder -/
/- porism/porismlaw21.DepsRings -/
/- porism/porismlaw21.DepsAdded -/
/- porism/porismlaw21.DepsCaps -/
/- porism/porismlaw21.wakes -/
def c1013 : SCode :=
 .seq (.reg
 [⟨some 0, none, .mv (.k (.bool false))⟩])
 (.seq (.reg
 [⟨some 6, none, .build 28 [.v (.int .i64 0), .v (.int .i64 0)] [(0, 0, 1, .k (.int .i64 2)), (1, 1, 1, .k (.int .i64 0))]⟩,
 ⟨some 7, none, .lit 28 2 16 [.t 6]⟩,
 ⟨some 8, none, .call (.f 12) [.k (.int .i64 3), .t 7]⟩,
 ⟨some 5, none, .mv (.t 8)⟩,
 ⟨some 9, none, .ext (.t 5) 0⟩,
 ⟨some 10, none, .ext (.t 5) 1⟩,
 ⟨some 1, none, .mv (.t 9)⟩,
 ⟨some 2, none, .mv (.t 10)⟩])
 (.seq (.reg
 [⟨some 12, none, .call (.f 33) [.k (.int .i64 0)]⟩,
 ⟨some 13, none, .build 70 [.v (.int .i64 0), .v (.int .i64 0), .v (.int .i64 0), .cap 3 40 [], .v (.int .i64 0), .v (.int .i64 0), .cap 3 40 [], .v (.int .i64 0), .v (.int .i64 0), .cap 6 80 [], .cap 6 96 [], .v (.int .i64 0)] [(0, 0, 1, .k (.int .i64 1)), (1, 1, 3, .t 12)]⟩,
 ⟨some 14, none, .call (.f 34) [.k (.int .i64 0)]⟩,
 ⟨some 15, none, .build 70 [.v (.int .i64 0), .v (.int .i64 0), .v (.int .i64 0), .cap 3 40 [], .v (.int .i64 0), .v (.int .i64 0), .cap 3 40 [], .v (.int .i64 0), .v (.int .i64 0), .cap 6 80 [], .cap 6 96 [], .v (.int .i64 0)] [(0, 0, 1, .k (.int .i64 1)), (1, 1, 3, .t 14)]⟩,
 ⟨some 16, none, .lit 70 12 160 [.t 13, .t 15]⟩,
 ⟨some 17, none, .lit 3 1 8 [.k (.int .i64 1)]⟩,
 ⟨some 18, none, .call (.f 17) [.t 16, .t 17]⟩,
 ⟨some 11, none, .mv (.t 18)⟩,
 ⟨some 19, none, .ext (.t 11) 0⟩,
 ⟨some 20, none, .ext (.t 11) 1⟩,
 ⟨some 3, none, .mv (.t 19)⟩,
 ⟨some 4, none, .mv (.t 20)⟩])
 (.seq (.reg
 [⟨some 21, none, .mv (.t 2)⟩,
 ⟨some 22, none, .bin .eql (.t 21) (.k (.int .i64 0))⟩,
 ⟨some 23, none, .mv (.t 22)⟩,
 ⟨some 24, some (23, true), .mv (.t 4)⟩,
 ⟨some 25, some (23, true), .bin .eql (.t 24) (.k (.int .i64 0))⟩,
 ⟨some 26, none, .pick (.t 23) (.t 25) (.k (.bool false))⟩,
 ⟨some 27, none, .mv (.t 26)⟩,
 ⟨some 28, some (27, true), .mv (.t 1)⟩,
 ⟨some 29, some (27, true), .lit 3 1 8 [.k (.int .i64 1), .k (.int .i64 2), .k (.int .i64 0)]⟩,
 ⟨some 30, some (27, true), .call (.f 15) [.t 28, .t 29]⟩,
 ⟨some 31, none, .pick (.t 27) (.t 30) (.k (.bool false))⟩,
 ⟨some 32, none, .mv (.t 31)⟩,
 ⟨some 33, some (32, true), .mv (.t 3)⟩,
 ⟨some 34, some (32, true), .lit 3 1 8 [.k (.int .i64 0), .k (.int .i64 1)]⟩,
 ⟨some 35, some (32, true), .call (.f 15) [.t 33, .t 34]⟩,
 ⟨some 36, none, .pick (.t 32) (.t 35) (.k (.bool false))⟩,
 ⟨some 0, none, .mv (.t 36)⟩])
 (.ret))))
def r1013 : List RR := [.t 0]
theorem ok1013 : okFn Go.Proofs.Tryz.prog 13 37 c1013 r1013 0 = true := by kernel_rfl
/- porism/porismlaw21.place -/
end Go.Abs

namespace Go.Abs
open Go.Proofs
def ebox (l : List T) : Obj := .box 37 [.sl 12 160 (l.map axc)]
def outE (len : Nat) (x : Int) : Bool := decide (x < 0) || decide ((len : Int) ≤ x)
def fstOut (len : Nat) : List Int → Nat → Int
  | [], _ => -1
  | p :: r, i => if outE len p then i else fstOut len r (i + 1)
theorem fstOut_any (len : Nat) : ∀ (l : List Int) (i : Nat), decide (0 ≤ fstOut len l i) = l.any (outE len)
  | [], i => by simp [fstOut]
  | p :: r, i => by
    simp only [fstOut, List.any_cons]
    by_cases h : outE len p = true
    · simp [h]
    · simp only [h]; simpa using fstOut_any len r (i + 1)
theorem sp1039 (tn : Nat) (l : List T) (x : Int) : Spec Tryz.prog 39 [ib x, .c (.ref 1017002 tn 0)] [(1017002, tn, ebox l)] (bb (outE l.length x)) [(1017002, tn, ebox l)] := by
  refine spec_one (base := 1039000) ok1039 rfl fun σ h0 oK gK hr => ?_
  have s0 : σ.sl 0 = .c (.v (.int .i64 x)) := h0 0
  have s1 : σ.sl 1 = .c (.ref 1017002 tn 0) := h0 1
  clear h0 hr
  unfold c1039
  by_cases c1 : x < 0
  · simp [s0, s1, oK, gK, ebox, c1]
    refine EndU_one ?_ ?_ ?_ ?_ <;> simp [r1039, outE, bb, c1, oK, gK, ebox]
  · simp [s0, s1, oK, gK, ebox, c1]
    refine EndU_one ?_ ?_ ?_ ?_ <;> simp [r1039, outE, bb, c1, oK, gK, ebox]
theorem sp1060 (tn : Nat) (es : List T) (l : List Int) : Spec Tryz.prog 60 [is l, .c (.clo 39 [] [(1017002, tn)])] [(1017002, tn, ebox es)] (ib (fstOut es.length l 0)) [(1017002, tn, ebox es)] := by
  refine spec_one (base := 1060000) ok1060 rfl fun σ h0 oK gK hr => ?_
  have hl := real_is (hr (is l) (by simp))
  have s0 : σ.sl 0 = .c (.sl 1 8 (ic l)) := h0 0
  have s1 : σ.sl 1 = .c (.clo 39 [] [(1017002, tn)]) := h0 1
  clear h0 hr
  unfold c1060
  simp [s0, s1, -W_block]
  rw [W_block]
  refine W_loop (fun m σ => ∃ i : Nat, i + m = l.length ∧ fstOut es.length (l.drop i) i = fstOut es.length l 0 ∧ σ.sl 0 = .c (.sl 1 8 (ic l)) ∧ σ.sl 1 = .c (.clo 39 [] [(1017002, tn)]) ∧ σ.sl 7 = .c (.v (.int .i64 l.length)) ∧ σ.sl 8 = .c (.v (.int .i64 i)) ∧ σ.ob 1017002 = some (ebox es) ∧ σ.tg 1017002 = tn) l.length ⟨0, by simp [s0, s1, oK, gK]⟩ ?_
  clear s0 s1 oK gK σ
  rintro m σ ⟨i, hm, hp, s0, s1, s7, s8, oK, gK⟩
  unfold c1060b0
  by_cases hi : i < l.length
  · have w1 := wrap_succ (i := i) (by omega)
    obtain ⟨p, hp1⟩ := at_of hi
    obtain ⟨_, hp2⟩ := getE hp1
    rw [drop_at hp1, fstOut] at hp
    simp [s0, s1, s7, s8, oK, gK, hi, hp2]
    refine ECall.ro (args := [ib p]) [(1017002, tn, ebox es)] (by simpa [refs] using sp1039 tn es p) (by simp [toD2, toD1, ib, toD]) (by simp) rfl (Ro.one (by simp [oK]) (by simp [gK]) rfl) fun _ => ?_
    cases hb : outE es.length p with
    | true =>
      rw [hb] at hp
      simp [bb]
      refine EndU_one ?_ ?_ ?_ ?_ <;> simp [r1060, oK, gK, ib, ← hp]
    | false =>
      rw [hb] at hp
      simp [bb, w1, s0, s1, s7, s8, oK, gK]
      exact ⟨m - 1, by omega, i + 1, by omega, by simpa using hp, rfl⟩
  · have : i = l.length := by omega
    subst this
    simp [fstOut] at hp
    simp [s0, s1, s7, s8, oK, gK]
    refine EndU_one ?_ ?_ ?_ ?_ <;> simp [r1060, oK, gK, ib, ← hp]
theorem sp1038 (tn : Nat) (es : List T) (l : List Int) : Spec Tryz.prog 38 [is l, .c (.clo 39 [] [(1017002, tn)])] [(1017002, tn, ebox es)] (bb (l.any (outE es.length))) [(1017002, tn, ebox es)] := by
  refine spec_one (base := 1038000) ok1038 rfl fun σ h0 oK gK hr => ?_
  have s0 : σ.sl 0 = .c (.sl 1 8 (ic l)) := h0 0
  have s1 : σ.sl 1 = .c (.clo 39 [] [(1017002, tn)]) := h0 1
  clear h0 hr
  unfold c1038
  simp [s0, s1]
  refine ECall.ro (rs := []) (args := [is l, .c (.clo 39 [] [(1017002, tn)])]) [(1017002, tn, ebox es)] (by simpa [refs] using sp1060 tn es l) (by simp [toD2, toD1, is, toD, ic]) (by simp) rfl (Ro.one (by simp [oK]) (by simp [gK]) rfl) fun _ => ?_
  simp [ib]
  refine EndU_one ?_ ?_ ?_ ?_ <;> simp [r1038, oK, gK, bb, ← fstOut_any es.length l 0]
theorem new1040 (x : Int) (l : List Int) : SpecNew Tryz.prog 40 [is (x :: l)] (.c (.own 0 0)) (hrow (x :: l)) := by
  refine new_of (base := 1040000) 1040007 ok1040 rfl rfl rfl fun σ h0 hr => ?_
  have hl := real_is (hr (is (x :: l)) (by simp))
  have s0 : σ.sl 0 = .c (.sl 1 8 (ic (x :: l))) := h0 0
  simp only [ic, List.map_cons] at s0
  clear h0 hr
  unfold c1040
  simp [s0]
  refine ⟨by simpa [room] using hl, _, .refl _, ⟨by simp [r1040], by simp [r1040, resN, resLN, rrEvN], by simp [hrow, ic]⟩⟩
/-! ### the row that wakes the laws: a universe, and a constant that names it -/
def u0 : T := .mk 2 0 []
def c0 : T := .mk 3 0 []
def row0 : List T := [u0, c0]
theorem uses_u0 : usesA u0 = [] := by simp [usesA, u0, tz, addAll, T.consts, T.cons, T.consL, sortI]
theorem uses_c0 : usesA c0 = [0] := by simp [usesA, c0, tz, addAll, T.consts, T.cons, T.consL, sortI, addK]
theorem sort_10 : sortI [1, 0] = [0, 1] := by
  refine srt_ext (sortI_srt (by decide)) (by decide) fun n => ?_
  rw [sortI_mem]; simp; omega
theorem chk_row0 : chk row0 0 = 0 := by decide
theorem fn1041_0 : Fn Tryz.prog 41 [axs row0, ib (0 : Nat)] (is []) := by
  have := fn1041 row0 0 u0 rfl (by decide) (by decide) (by simp [u0, T.consts, T.cons, T.consL, sortI]) (by simp [u0, tz, addAll, T.consts, T.cons, T.consL, sortI]) (by simp [u0, tz, addAll, T.consts, T.cons, T.consL, sortI])
  rwa [uses_u0] at this
theorem fn1041_1 : Fn Tryz.prog 41 [axs row0, ib (1 : Nat)] (is [0]) := by
  have := fn1041 row0 1 c0 rfl (by decide) (by decide) (by simp [c0, T.consts, T.cons, T.consL, sortI, addK]) (by simp [c0, tz, addAll, T.consts, T.cons, T.consL, sortI, addK]) (by simp [c0, tz, addAll, T.consts, T.cons, T.consL, sortI, addK, okI])
  rwa [uses_c0] at this
structure NS (K : Nat) (todo seen : List Int) (σ : St) : Prop where
  s2 : σ.sl 2 = .c (.ref 1017002 (σ.tg 1017002) 0)
  o2 : σ.ob 1017002 = some (ebox row0)
  s7 : σ.sl 7 = .c (.mp 1017020 (σ.tg 1017020))
  o7 : σ.ob 1017020 = some (.mob true (encK seen))
  s8 : σ.sl 8 = .c (.own K (σ.tg K))
  o8 : σ.ob K = some (hrow todo)
theorem fn1017 : Fn Tryz.prog 17 [axs row0, is [1]] (.tup [is [0, 1], ib 0]) := by
  refine fn_of (base := 1017000) ok1017 rfl fun σ h0 hr => ?_
  have s0 : σ.sl 0 = axs row0 := h0 0
  have s1 : σ.sl 1 = is [1] := h0 1
  clear h0 hr
  unfold c1017
  simp [s0, s1, axs, is]
  refine ECall.fn (fn1027 row0 (by decide)) (by simp [toD2, toD1, toD, axs]) (by simp) rfl fun _ => ?_
  simp [chk_row0, ib, s1, is]
  refine ECall.ro (rs := []) (args := [is [1], .c (.clo 39 [] [(1017002, σ.tg 1017002 + 1)])]) [(1017002, σ.tg 1017002 + 1, ebox row0)] (by simpa [refs] using sp1038 (σ.tg 1017002 + 1) row0 [1]) (by simp [toD2, toD1, is, toD]) (by simp) rfl (Ro.one (by simp [ebox]) (by simp) rfl) fun _ => ?_
  have e1 : outE row0.length 1 = false := by decide
  simp [e1, bb, s1, is]
  refine ECall.new 1017300 (new1040 1 []) rfl rfl (by simp [toD2, toD1, is, toD]) (by simp) fun hx => ?_
  clear hx
  simp [-W_block]
  rw [W_block]
  refine W_loop (fun m σ => (m = 2 ∧ NS 1017300 [1] [] σ) ∨ (m = 1 ∧ NS 1017046 [0] [1] σ) ∨ (m = 0 ∧ NS 1017036 [] [1, 0] σ)) 2 (.inl ⟨rfl, ⟨by simp, by simp [ebox], by simp, by simp [encK], by simp, by simp⟩⟩) ?_
  clear s0 s1 σ
  have w0 : IntKind.wrap .i64 (0 : Int) = 0 := by decide
  rintro m σ (⟨rfl, s2, o2, s7, o7, s8, o8⟩ | ⟨rfl, s2, o2, s7, o7, s8, o8⟩ | ⟨rfl, s2, o2, s7, o7, s8, o8⟩)
  · unfold c1017b0
    simp [s2, o2, s7, o7, s8, o8, hrow, ic, w0, encK, ebox, mres, mgetL, mval, msetL]
    refine ⟨by simp [room], ECall.fn fn1041_1 (by simp [toD2, toD1, toD, axs, ib]) (by simp) rfl fun hx => ?_⟩
    clear hx
    simp [is]
    refine ⟨by simp [room], 1, by omega, .inr (.inl ⟨rfl, ⟨by simp [s2], by simp [o2, ebox], by simp [s7], by simp [encK], by simp, by simp [hrow, ic]⟩⟩)⟩
  · unfold c1017b0
    simp [s2, o2, s7, o7, s8, o8, hrow, ic, w0, encK, ebox, mres, mgetL, mval, msetL]
    refine ⟨by simp [room], ECall.fn fn1041_0 (by simp [toD2, toD1, toD, axs, ib]) (by simp) rfl fun hx => ?_⟩
    clear hx
    simp [is]
    exact ⟨by simp [s2], by simp [o2, ebox], by simp [s7], by simp [encK], by simp, by simp [hrow, ic]⟩
  · unfold c1017b0
    simp [s2, o2, s7, o7, s8, o8, hrow, ic, w0]
    refine ECall.keys (k := 1017020) (one := true) (es := encK [1, 0]) (by simp [o7]) (by simp) ?_
    simp
    refine ECall.sorted 1017301 (k := 1017020) (one := true) (es := encK [1, 0]) (by simp [o7]) (by simp) (by omega) (by simp [encK, okI]) (by simp [encK]) ?_
    simp [r1017, encK_keys, sort_10, isL]
/-! ### wakes -/
theorem ord_wakes : ord 3 [(2, 0)] = ([1, 2, 0], 0) := by decide
theorem fn1013 : Fn Tryz.prog 13 [] (bb true) := by
  refine fn_of (base := 1013000) ok1013 rfl fun σ h0 hr => ?_
  clear h0 hr
  unfold c1013
  simp [fillC, putC]
  refine ⟨by simp [room], ECall.fn (zn12 3 [(2, 0)]) (by simp [toD2, toD1, toD, eds, ecs, ec, ib]) (by simp) rfl fun hx => ?_⟩
  clear hx
  simp [ordAV, ord_wakes, is, ib]
  refine ECall.fn (fn24 0) (by simp [toD2, toD1, toD, ib]) (by simp) rfl fun hx => ?_
  clear hx
  simp [fillC, putC, tm, cells_mk]
  refine ECall.fn (fn1034 0) (by simp [toD2, toD1, toD, ib]) (by simp) rfl fun hx => ?_
  clear hx
  simp [fillC, putC, tm, cells_mk]
  refine ⟨by simp [room], by simp [room], ECall.fn fn1017 (by simp [toD2, toD1, toD, axs, row0, u0, c0, axc, is]) (by simp) rfl fun hx => ?_⟩
  clear hx
  simp [is, ib]
  refine ⟨by simp [room], GCall.fn (fun _ => fn59 [1, 2, 0] [1, 2, 0]) (by simp [toD2, toD1, toD, is]) (by simp) rfl fun hx => ?_⟩
  clear hx
  simp [bb]
  refine ⟨by simp [room], GCall.fn (fun _ => fn59 [0, 1] [0, 1]) (by simp [toD2, toD1, toD, is]) (by simp) rfl fun hx => ?_⟩
  clear hx
  simp [bb, r1013]
end Go.Abs

namespace Go.Abs
open Go.Proofs
/-! ### the greatest -/
def maxF : Int → List Int → Int
  | m, [] => m
  | m, x :: r => maxF (best2 true m x) r
def maxI : List Int → Int
  | [] => 0
  | x :: r => maxF x r
theorem fn1126 (x : Int) (r : List Int) (hl : r.length ≤ 1000000000) : Fn Tryz.prog 126 [is (x :: r)] (ib (maxI (x :: r))) := by
  refine fn_of (base := 1126000) ok1126 rfl fun σ h0 hr => ?_
  have s0 : σ.sl 0 = .c (.sl 1 8 (ic (x :: r))) := h0 0
  clear h0 hr
  unfold c1126
  have c1 : ¬ ((r.length : Int) + 1 < 1) := by omega
  have e0 : ic (x :: r) = [Cell.v (.int .i64 x)] :: ic r := rfl
  simp [s0, c1, e0, -W_block]
  rw [W_block]
  rw [← e0]
  refine W_loop (fun m σ => ∃ i y, i + m = r.length ∧ maxF y (r.drop i) = maxI (x :: r) ∧ σ.sl 0 = .c (.sl 1 8 (ic (x :: r))) ∧ σ.sl 3 = .c (.v (.int .i64 y)) ∧ σ.sl 4 = .c (.v (.int .i64 (i + 1 : Nat)))) r.length ?_ ?_
  · exact ⟨0, x, by simp, by simp [maxI], by simp [s0], by simp, by simp⟩
  clear s0 σ
  rintro m σ ⟨i, y, hm, hp, s0, s3, s4⟩
  unfold c1126b0
  by_cases hi : i < r.length
  · have w1 := wrap_succ (i := i + 1) (by omega)
    obtain ⟨z, hz⟩ := at_of hi
    obtain ⟨_, hz2⟩ := getE hz
    rw [drop_at hz, maxF] at hp
    generalize hn : i + 1 = n at *
    have hnl : n < (x :: r).length := by simp; omega
    have hn1 : (n : Int) < (r.length : Int) + 1 := by omega
    have hat : (x :: r)[n]'hnl = z := by subst hn; simpa using hz2
    have hat2 : (ic (x :: r))[n]? = some [.v (.int .i64 z)] := by rw [ic_get hnl, hat]
    simp [s0, s3, s4, hn1, hat2, w1]
    exact ⟨m - 1, by omega, n, by omega, _, hp, rfl, rfl⟩
  · have : i = r.length := by omega
    subst this
    simp [maxF] at hp
    simp [s0, s3, s4, r1126, ib, hp]
end Go.Abs

namespace Go.Abs
open Go.Proofs
/-! ### all terms of arguments -/
def aTerms (a : A) : List T := a.typ :: (a.dom ++ a.idx)
def tOf (l : List A) : List T := l.flatMap aTerms
def LT (σ : St) (s : Nat) (l : List T) (Ks : List Nat) : Prop := (σ.sl s = .c (.cap 3 40 []) ∧ l = []) ∨ ∃ K, K ∈ Ks ∧ σ.sl s = .c (.own K (σ.tg K)) ∧ σ.ob K = some (.row 63 3 40 (l.map T.cells))
def w1125 : List (List Nat) := [[], [], [], [], [1125022, 1125016], [], [], [1125019, 1125016], [], [], [1125022, 1125019], []]
def f1125 : List (List Nat) := [[], [], [], [], [], [1125016, 1125022], [1125016, 1125022], [], [1125016, 1125019, 1125022], [1125016, 1125019, 1125022], [], []]
theorem loop1125 {σ : St} {Q : SEx → St → Prop} (l : List A) (hl : l.length ≤ 12) (hs : ∀ a, a ∈ l → a.dom.length ≤ 12 ∧ a.idx.length ≤ 12) (s6 : σ.sl 6 = .c (.sl 7 104 (l.map A.cells))) (s7 : σ.sl 7 = .c (.v (.int .i64 l.length))) (s8 : σ.sl 8 = .c (.v (.int .i64 (0 : Nat)))) (s3 : σ.sl 3 = .c (.cap 3 40 []))
    (hQ : ∀ σ', LT σ' 3 (tOf l) [1125022] → Q .normal σ') : W Tryz.prog 1125000 (.loop c1125b0) σ (onBlock 0 Q) := by
  refine W_loop (fun m σ => ∃ i : Nat, i + m = l.length ∧ σ.sl 6 = .c (.sl 7 104 (l.map A.cells)) ∧ σ.sl 7 = .c (.v (.int .i64 l.length)) ∧ σ.sl 8 = .c (.v (.int .i64 i)) ∧ (tOf (l.take i)).length ≤ 25 * i ∧ LT σ 3 (tOf (l.take i)) [1125022]) l.length ⟨0, by simp, s6, s7, s8, by simp [tOf], .inl ⟨s3, by simp [tOf]⟩⟩ ?_
  clear s6 s7 s8 s3 σ
  rintro m σ ⟨i, hm, s6, s7, s8, h25, s3⟩
  unfold c1125b0
  by_cases hi : i < l.length
  · have w1 := wrap_succ (i := i) (by omega)
    obtain ⟨a, ha⟩ := at_of hi
    obtain ⟨_, ha2⟩ := getE ha
    obtain ⟨d1, d2⟩ := hs a (List.mem_of_getElem? ha)
    have htk : tOf (l.take (i + 1)) = tOf (l.take i) ++ aTerms a := by rw [take_succ' ha, tOf, List.flatMap_append]; simp [tOf]
    have hlen : (aTerms a).length ≤ 25 := by simp [aTerms]; omega
    have h25' : (tOf (l.take (i + 1))).length ≤ 25 * (i + 1) := by rw [htk, List.length_append]; omega
    have hty : ∀ x, x ∈ a.typ.cells → x.isD = true := by rw [cells_eq]; simp
    simp [s6, s7, s8, hi, ha2, A.cells]
    refine W_dregD w1125 f1125 (by decide) ?_
    unfold w1125 f1125
    rcases s3 with ⟨s3, e0⟩ | ⟨K, hK, s3, o3⟩
    · simp [s3, cells_eq a.typ]
      repeat' (with_reducible apply And.intro)
      all_goals first
        | (refine realC_n ?_
           simp [s8, w1]
           exact ⟨m - 1, by omega, i + 1, by omega, by simp [s6], by simp [s7], by simp, h25', .inr ⟨1125022, by simp, by simp, by simp [htk, e0, aTerms, cells_eq a.typ]⟩⟩)
        | (simp [room] <;> omega)
    · simp at hK
      subst hK
      simp [s3, o3, cells_eq a.typ]
      refine ⟨by simp [room] <;> omega, by simp [room] <;> omega, by simp [room] <;> omega, by simp [room] <;> omega, ?_⟩
      · refine realC_n ?_
        simp [s8, w1]
        exact ⟨m - 1, by omega, i + 1, by omega, by simp [s6], by simp [s7], by simp, h25', .inr ⟨1125022, by simp, by simp, by simp [htk, aTerms, cells_eq a.typ]⟩⟩
  · have : i = l.length := by omega
    subst this
    rw [List.take_of_length_le (Nat.le_refl _)] at s3
    simp [s6, s7, s8]
    refine hQ _ ?_
    rcases s3 with ⟨s3, e0⟩ | ⟨K, hK, s3, o3⟩
    · exact .inl ⟨by simp [s3], e0⟩
    · exact .inr ⟨K, hK, by simp [s3], by simp [o3]⟩
theorem fn1125 (l : List A) (hl : l.length ≤ 12) (hs : ∀ a, a ∈ l → a.dom.length ≤ 12 ∧ a.idx.length ≤ 12) : Fn Tryz.prog 125 [ams l] (tms (tOf l)) := by
  refine fn_of (base := 1125000) ok1125 rfl fun σ h0 hr => ?_
  have s0 : σ.sl 0 = ams l := h0 0
  simp only [ams] at s0
  clear h0 hr
  unfold c1125
  simp [s0]
  refine loop1125 l hl hs (by simp) (by simp) (by simp) (by simp) fun σ' H => ?_
  rcases H with ⟨s3, e0⟩ | ⟨K, hK, s3, o3⟩
  · simp [s3, e0, r1125, tms]
  · simp at hK
    subst hK
    simp [s3, o3, r1125, tms]
/-! ### the constants that a block names -/
def tsS (s : S) : List T := s.decType :: tOf s.idx
def tsK (c : K) : List T := c.dec :: (c.idx ++ tOf c.args)
def sT (l : List S) : List T := l.flatMap tsS
def kT (l : List K) : List T := l.flatMap tsK
def B.terms (b : B) : List T := sT b.sorts ++ kT b.cons
def maxC (t : T) : Int := maxI (t.consts ++ [-1])
def nameF : Int → List T → Int
  | m, [] => m
  | m, t :: r => nameF (best2 true m (maxC t)) r
def B.names (b : B) : Int := nameF (-1) b.terms
theorem tOf_len {l : List A} (hl : l.length ≤ 12) (hs : ∀ a, a ∈ l → a.dom.length ≤ 12 ∧ a.idx.length ≤ 12) : (tOf l).length ≤ 300 := by
  have key : ∀ (l : List A), (∀ a, a ∈ l → a.dom.length ≤ 12 ∧ a.idx.length ≤ 12) → (tOf l).length ≤ 25 * l.length := by
    intro l
    induction l with
    | nil => intro _; simp [tOf]
    | cons a l ih =>
      intro h
      have h1 := h a (by simp)
      have h2 := ih fun x hx => h x (by simp [hx])
      simp only [tOf, List.flatMap_cons, List.length_append, List.length_cons] at h2 ⊢
      simp only [aTerms, List.length_cons, List.length_append]
      omega
  have := key l hs
  omega
structure FN (b : B) (σ : St) : Prop where
  s1 : σ.sl 1 = .c (.ref 1093001 (σ.tg 1093001) 0)
  o1 : σ.ob 1093001 = some (.box 68 b.cells)
def w1093 : List (List Nat) := [[], [], [], [], [1093026, 1093022], [], [], [], [1093026, 1093022], []]
def f1093 : List (List Nat) := [[], [], [], [], [], [1093022, 1093026], [1093022, 1093026], [], [], []]
theorem loop1093a {σ : St} {Q : SEx → St → Prop} (b : B) (l : List S) (hl : l.length ≤ 4) (hs : ∀ s, s ∈ l → s.idx.length ≤ 12 ∧ ∀ a, a ∈ s.idx → a.dom.length ≤ 12 ∧ a.idx.length ≤ 12) (H : FN b σ) (s12 : σ.sl 12 = .c (.sl 6 80 (l.map S.cells))) (s13 : σ.sl 13 = .c (.v (.int .i64 l.length))) (s14 : σ.sl 14 = .c (.v (.int .i64 (0 : Nat)))) (s3 : σ.sl 3 = .c (.cap 3 40 []))
    (hQ : ∀ σ', FN b σ' → LT σ' 3 (sT l) [1093026] → Q .normal σ') : W Tryz.prog 1093000 (.loop c1093b0) σ (onBlock 0 Q) := by
  refine W_loop (fun m σ => ∃ i : Nat, i + m = l.length ∧ FN b σ ∧ σ.sl 12 = .c (.sl 6 80 (l.map S.cells)) ∧ σ.sl 13 = .c (.v (.int .i64 l.length)) ∧ σ.sl 14 = .c (.v (.int .i64 i)) ∧ (sT (l.take i)).length ≤ 301 * i ∧ LT σ 3 (sT (l.take i)) [1093026]) l.length ⟨0, by simp, H, s12, s13, s14, by simp [sT], .inl ⟨s3, by simp [sT]⟩⟩ ?_
  clear H s12 s13 s14 s3 σ
  rintro m σ ⟨i, hm, ⟨s1, o1⟩, s12, s13, s14, h25, s3⟩
  unfold c1093b0
  by_cases hi : i < l.length
  · have w1 := wrap_succ (i := i) (by omega)
    obtain ⟨s, ha⟩ := at_of hi
    obtain ⟨_, ha2⟩ := getE ha
    obtain ⟨d1, d2⟩ := hs s (List.mem_of_getElem? ha)
    have hto := tOf_len d1 d2
    have htk : sT (l.take (i + 1)) = sT (l.take i) ++ tsS s := by rw [take_succ' ha, sT, List.flatMap_append]; simp [sT]
    have hlen : (tsS s).length ≤ 301 := by simp [tsS]; omega
    have h25' : (sT (l.take (i + 1))).length ≤ 301 * (i + 1) := by rw [htk, List.length_append]; omega
    generalize sT (l.take i) = acc at *
    have hr := fn1125 s.idx d1 d2
    simp [s12, s13, s14, hi, ha2, S.cells]
    refine W_dregD w1093 f1093 (by decide) ?_
    unfold w1093 f1093
    rcases s3 with ⟨s3, e0⟩ | ⟨K, hK, s3, o3⟩
    · simp [s3, cells_eq s.decType]
      refine ⟨by simp [room] <;> omega, ?_⟩
      refine CallD.fn hr (by simp [ams]) (by simp) rfl (by simp) ?_
      simp [tms]
      refine ⟨by simp [room] <;> omega, realC_n ?_⟩
      simp [s14, w1]
      exact ⟨m - 1, by omega, i + 1, by omega, ⟨by simp [s1], by simp [o1]⟩, by simp [s12], by simp [s13], by simp, h25', .inr ⟨1093026, by simp, by simp, by simp [htk, e0, tsS, cells_eq s.decType]⟩⟩
    · simp at hK
      subst hK
      simp [s3, o3, cells_eq s.decType]
      refine ⟨by simp [room] <;> omega, by simp [room] <;> omega, ?_⟩
      refine CallD.fn hr (by simp [ams]) (by simp) rfl (by simp) ?_
      simp [tms]
      refine ⟨by simp [room] <;> omega, realC_n ?_⟩
      simp [s14, w1]
      exact ⟨m - 1, by omega, i + 1, by omega, ⟨by simp [s1], by simp [o1]⟩, by simp [s12], by simp [s13], by simp, h25', .inr ⟨1093026, by simp, by simp, by simp [htk, tsS, cells_eq s.decType]⟩⟩
  · have : i = l.length := by omega
    subst this
    rw [List.take_of_length_le (Nat.le_refl _)] at s3
    simp [s12, s13, s14]
    refine hQ _ ⟨by simp [s1], by simp [o1]⟩ ?_
    rcases s3 with ⟨s3, e0⟩ | ⟨K, hK, s3, o3⟩
    · exact .inl ⟨by simp [s3], e0⟩
    · exact .inr ⟨K, hK, by simp [s3], by simp [o3]⟩
end Go.Abs

namespace Go.Abs
open Go.Proofs
def w1093k : List (List Nat) := [[], [], [], [], [1093026, 1093046, 1093039], [], [], [1093042, 1093039], [], [], [], [1093046, 1093042], []]
def f1093k : List (List Nat) := [[], [], [], [], [], [1093026, 1093046, 1093039], [1093026, 1093046, 1093039], [], [1093026, 1093046, 1093039, 1093042], [1093026, 1093046, 1093039, 1093042], [], [], []]
theorem loop1093b {σ : St} {Q : SEx → St → Prop} (b : B) (pr : List T) (hpr : pr.length ≤ 2000) (l : List K) (hl : l.length ≤ 8) (hs : ∀ s, s ∈ l → s.idx.length ≤ 12 ∧ s.args.length ≤ 12 ∧ ∀ a, a ∈ s.args → a.dom.length ≤ 12 ∧ a.idx.length ≤ 12) (H : FN b σ) (s29 : σ.sl 29 = .c (.sl 6 96 (l.map K.cells))) (s30 : σ.sl 30 = .c (.v (.int .i64 l.length))) (s31 : σ.sl 31 = .c (.v (.int .i64 (0 : Nat)))) (s3 : LT σ 3 pr [1093026])
    (hQ : ∀ σ', LT σ' 3 (pr ++ kT l) [1093026, 1093046] → Q .normal σ') : W Tryz.prog 1093000 (.loop c1093b1) σ (onBlock 2 Q) := by
  have s3' : LT σ 3 pr [1093026, 1093046] := by
    rcases s3 with h | ⟨K, hK, h⟩
    · exact .inl h
    · exact .inr ⟨K, by simp at hK; simp [hK], h⟩
  refine W_loop (fun m σ => ∃ i : Nat, i + m = l.length ∧ FN b σ ∧ σ.sl 29 = .c (.sl 6 96 (l.map K.cells)) ∧ σ.sl 30 = .c (.v (.int .i64 l.length)) ∧ σ.sl 31 = .c (.v (.int .i64 i)) ∧ (kT (l.take i)).length ≤ 313 * i ∧ LT σ 3 (pr ++ kT (l.take i)) [1093026, 1093046]) l.length ⟨0, by simp, H, s29, s30, s31, by simp [kT], by simpa [kT] using s3'⟩ ?_
  clear H s29 s30 s31 s3 s3' σ
  rintro m σ ⟨i, hm, ⟨s1, o1⟩, s29, s30, s31, h25, s3⟩
  unfold c1093b1
  by_cases hi : i < l.length
  · have w1 := wrap_succ (i := i) (by omega)
    obtain ⟨s, ha⟩ := at_of hi
    obtain ⟨_, ha2⟩ := getE ha
    obtain ⟨d0, d1, d2⟩ := hs s (List.mem_of_getElem? ha)
    have hto := tOf_len d1 d2
    have htk : kT (l.take (i + 1)) = kT (l.take i) ++ tsK s := by rw [take_succ' ha, kT, List.flatMap_append]; simp [kT]
    have hlen : (tsK s).length ≤ 313 := by simp [tsK]; omega
    have h25' : (kT (l.take (i + 1))).length ≤ 313 * (i + 1) := by rw [htk, List.length_append]; omega
    have hacc : (pr ++ kT (l.take i)).length ≤ 6000 := by rw [List.length_append]; omega
    have htk' : pr ++ kT (l.take (i + 1)) = (pr ++ kT (l.take i)) ++ tsK s := by rw [htk, List.append_assoc]
    generalize pr ++ kT (l.take i) = acc at *
    have hr := fn1125 s.args d1 d2
    simp [s29, s30, s31, hi, ha2, K.cells]
    refine W_dregD w1093k f1093k (by decide) ?_
    unfold w1093k f1093k
    rcases s3 with ⟨s3, e0⟩ | ⟨K, hK, s3, o3⟩
    · simp [s3, cells_eq s.dec]
      refine ⟨by simp [room] <;> omega, by simp [room] <;> omega, ?_⟩
      refine CallD.fn hr (by simp [ams]) (by simp) rfl (by simp) ?_
      simp [tms]
      refine ⟨by simp [room] <;> omega, realC_n ?_⟩
      simp [s31, w1]
      exact ⟨m - 1, by omega, i + 1, by omega, ⟨by simp [s1], by simp [o1]⟩, by simp [s29], by simp [s30], by simp, h25', by rw [htk', e0]; exact .inr ⟨1093046, by simp, by simp, by simp [tsK, cells_eq s.dec]⟩⟩
    · simp at hK
      rcases hK with rfl | rfl <;>
      · simp [s3, o3, cells_eq s.dec]
        refine ⟨by simp [room] <;> omega, by simp [room] <;> omega, by simp [room] <;> omega, ?_⟩
        refine CallD.fn hr (by simp [ams]) (by simp) rfl (by simp) ?_
        simp [tms]
        refine ⟨by simp [room] <;> omega, realC_n ?_⟩
        simp [s31, w1]
        exact ⟨m - 1, by omega, i + 1, by omega, ⟨by simp [s1], by simp [o1]⟩, by simp [s29], by simp [s30], by simp, h25', by rw [htk']; exact .inr ⟨1093046, by simp, by simp, by simp [tsK, cells_eq s.dec]⟩⟩
  · have : i = l.length := by omega
    subst this
    rw [List.take_of_length_le (Nat.le_refl _)] at s3
    simp [s29, s30, s31]
    refine hQ _ ?_
    rcases s3 with ⟨s3, e0⟩ | ⟨K, hK, s3, o3⟩
    · exact .inl ⟨by simp [s3], e0⟩
    · exact .inr ⟨K, hK, by simp [s3], by simp [o3]⟩
theorem consts_len {t : T} (h : t.ok) : t.consts.length ≤ 1048576 := by
  have := (cons_facts t []).1
  have h1 := h.1
  simp only [T.consts, sortI, (List.mergeSort_perm _ _).length_eq]
  simp at this
  omega
theorem loop1093c {σ : St} {Q : SEx → St → Prop} (ts : List T) (hl : ts.length ≤ 100000) (ho : ∀ t, t ∈ ts → t.ok) (K : Nat) (hK : K = 1093026 ∨ K = 1093046) (s48 : σ.sl 48 = .c (.own K (σ.tg K))) (oK : σ.ob K = some (.row 63 3 40 (ts.map T.cells))) (s49 : σ.sl 49 = .c (.v (.int .i64 ts.length))) (s50 : σ.sl 50 = .c (.v (.int .i64 (0 : Nat)))) (s8 : σ.sl 8 = .c (.v (.int .i64 (-1))))
    (hQ : ∀ σ', σ'.sl 8 = .c (.v (.int .i64 (nameF (-1) ts))) → Q .normal σ') : W Tryz.prog 1093000 (.loop c1093b2) σ (onBlock 4 Q) := by
  refine W_loop (fun m σ => ∃ i y, i + m = ts.length ∧ nameF y (ts.drop i) = nameF (-1) ts ∧ σ.sl 48 = .c (.own K (σ.tg K)) ∧ σ.ob K = some (.row 63 3 40 (ts.map T.cells)) ∧ σ.sl 49 = .c (.v (.int .i64 ts.length)) ∧ σ.sl 50 = .c (.v (.int .i64 (i : Nat))) ∧ σ.sl 8 = .c (.v (.int .i64 y))) ts.length ⟨0, -1, by simp, by simp, s48, oK, s49, s50, s8⟩ ?_
  clear s48 oK s49 s50 s8 σ
  rintro m σ ⟨i, y, hm, hp, s48, oK, s49, s50, s8⟩
  unfold c1093b2
  by_cases hi : i < ts.length
  · have w1 := wrap_succ (i := i) (by omega)
    obtain ⟨t, ht⟩ := at_of hi
    obtain ⟨_, ht2⟩ := getE ht
    have hto := ho t (List.mem_of_getElem? ht)
    have hcl := consts_len hto
    rw [drop_at ht, nameF] at hp
    obtain ⟨x, r, hxr⟩ : ∃ x r, t.consts ++ [-1] = x :: r := by
      cases h : t.consts with
      | nil => exact ⟨_, _, rfl⟩
      | cons a l => exact ⟨_, _, rfl⟩
    have hrl : r.length ≤ 1000000000 := by
      have : (t.consts ++ [-1]).length = (x :: r).length := by rw [hxr]
      simp at this; omega
    have hmax : maxC t = maxI (x :: r) := by rw [maxC, hxr]
    have hf := fn1126 x r hrl
    rw [← hmax, ← hxr] at hf
    rcases hK with rfl | rfl <;>
    · simp [s48, oK, s49, s50, s8, hi, ht2, cells_eq t]
      refine ECall.new 1093300 (sp60 t hto.1 hto.2) rfl rfl (by simp [tm, cells_eq t]) (by simp) fun hx => ?_
      clear hx
      simp [fillC, putC]
      refine ⟨by simp [room], by simp [room, isL]; omega, ?_⟩
      refine ECall.fn hf (by simp [toD2, toD1, toD, is, isL]) (by simp) rfl fun hx => ?_
      simp [s8, ib, s50, w1]
      exact ⟨m - 1, by omega, i + 1, by omega, best2 true y (maxC t), hp, by simp [s48], by simp [oK], by simp [s49], by simp, by simp⟩
  · have : i = ts.length := by omega
    subst this
    simp [nameF] at hp
    simp [s49, s50]
    exact hQ _ (by simp [s8, hp])
/-- What the form of a block says of the lengths. -/
theorem right_len {b : B} (hb : b.Fit) {a : A} {i : Nat} (h : a.right b i = true) : a.dom.length ≤ 12 ∧ a.idx.length ≤ 12 := by
  unfold A.right at h
  split at h
  · simp only [Bool.and_eq_true, Bool.not_eq_true'] at h
    have h1 := h.1.1
    simp only [badRec, Bool.or_eq_false_iff, decide_eq_false_iff_not] at h1
    obtain ⟨⟨⟨⟨q1, q2⟩, q3⟩, q4⟩, q5⟩ := h1
    have q5' : a.idx.length = (sIdx b a.sort).length := by omega
    have : (sIdx b a.sort).length ≤ 12 := by
      unfold sIdx
      cases e : b.sorts[a.sort.toNat]? with
      | none => simp
      | some s => exact hb.srt s (List.mem_of_getElem? e)
    omega
  · simp only [Bool.and_eq_true] at h
    have := of_decide_eq_true h.1.2
    omega
theorem rowA_len {b : B} (hb : b.Fit) : ∀ {l : List A} {i : Nat}, rowA b l i = true → ∀ a, a ∈ l → a.dom.length ≤ 12 ∧ a.idx.length ≤ 12
  | [], _, _, a, h => by cases h
  | a :: l, i, h, x, hx => by
    rw [rowA, Bool.and_eq_true] at h
    rcases List.mem_cons.1 hx with rfl | hx
    · exact right_len hb h.1
    · exact rowA_len hb h.2 x hx
theorem rowOk_len {b : B} (hb : b.Fit) {l : List A} (h : rowOk b l = true) : l.length ≤ 12 ∧ ∀ a, a ∈ l → a.dom.length ≤ 12 ∧ a.idx.length ≤ 12 := by
  unfold rowOk at h
  rw [Bool.and_eq_true] at h
  exact ⟨of_decide_eq_true h.1, rowA_len hb h.2⟩
theorem sT_len {l : List S} (hl : l.length ≤ 4) (h : ∀ s, s ∈ l → (tsS s).length ≤ 301) : (sT l).length ≤ 1204 := by
  have key : ∀ (l : List S), (∀ s, s ∈ l → (tsS s).length ≤ 301) → (sT l).length ≤ 301 * l.length := by
    intro l
    induction l with
    | nil => intro _; simp [sT]
    | cons a l ih =>
      intro h
      have h1 := h a (by simp)
      have h2 := ih fun x hx => h x (by simp [hx])
      simp only [sT, List.flatMap_cons, List.length_append, List.length_cons] at h2 ⊢
      omega
  have := key l h
  omega
theorem kT_len {l : List K} (hl : l.length ≤ 8) (h : ∀ s, s ∈ l → (tsK s).length ≤ 313) : (kT l).length ≤ 2504 := by
  have key : ∀ (l : List K), (∀ s, s ∈ l → (tsK s).length ≤ 313) → (kT l).length ≤ 313 * l.length := by
    intro l
    induction l with
    | nil => intro _; simp [kT]
    | cons a l ih =>
      intro h
      have h1 := h a (by simp)
      have h2 := ih fun x hx => h x (by simp [hx])
      simp only [kT, List.flatMap_cons, List.length_append, List.length_cons] at h2 ⊢
      omega
  have := key l h
  omega
theorem tOf_ok {l : List A} (h : ∀ a, a ∈ l → a.Ok) : ∀ t, t ∈ tOf l → t.ok := by
  intro t ht
  simp only [tOf, List.mem_flatMap, aTerms, List.mem_cons, List.mem_append] at ht
  obtain ⟨a, ha, rfl | h2 | h2⟩ := ht
  · exact (h a ha).typ
  · exact (h a ha).dom t h2
  · exact (h a ha).idx t h2
theorem terms_ok {b : B} (h : b.Ok) : ∀ t, t ∈ b.terms → t.ok := by
  intro t ht
  rcases List.mem_append.1 ht with ht | ht
  · simp only [sT, List.mem_flatMap, tsS, List.mem_cons] at ht
    obtain ⟨s, hs, rfl | h2⟩ := ht
    · exact (h.sorts s hs).dec
    · exact tOf_ok (h.sorts s hs).idx t h2
  · simp only [kT, List.mem_flatMap, tsK, List.mem_cons, List.mem_append] at ht
    obtain ⟨s, hs, rfl | h2 | h2⟩ := ht
    · exact (h.cons s hs).dec
    · exact (h.cons s hs).idx t h2
    · exact tOf_ok (h.cons s hs).args t h2
theorem fn1093 (b : B) (hF : b.Form) (hO : b.Ok) (hn : 0 < b.sorts.length) : Fn Tryz.prog 93 [bm b] (ib b.names) := by
  have hb := hF.fit
  have hs1 : ∀ s, s ∈ b.sorts → s.idx.length ≤ 12 ∧ ∀ a, a ∈ s.idx → a.dom.length ≤ 12 ∧ a.idx.length ≤ 12 := fun s hs => rowOk_len hb (hF.srt s hs)
  have hc1 : ∀ s, s ∈ b.cons → s.idx.length ≤ 12 ∧ s.args.length ≤ 12 ∧ ∀ a, a ∈ s.args → a.dom.length ≤ 12 ∧ a.idx.length ≤ 12 := fun c hc => by
    obtain ⟨q1, q2, q3, q4⟩ := hF.con c hc
    refine ⟨?_, rowOk_len hb q3⟩
    rw [q4]
    unfold sAt
    cases e : b.sorts[c.sort.toNat]? with
    | none => simp
    | some s => exact hb.srt s (List.mem_of_getElem? e)
  have hsl := sT_len hF.ns fun s hs => by have := tOf_len (hs1 s hs).1 (hs1 s hs).2; simp [tsS]; omega
  have hkl := kT_len hF.nc fun c hc => by have := tOf_len (hc1 c hc).2.1 (hc1 c hc).2.2; have := (hc1 c hc).1; simp [tsK]; omega
  refine fn_of (base := 1093000) ok1093 rfl fun σ h0 hr => ?_
  have s0 : σ.sl 0 = bm b := h0 0
  simp only [bm] at s0
  clear h0 hr
  unfold c1093
  simp [s0, B.cells]
  refine loop1093a b b.sorts hF.ns hs1 ⟨by simp, by simp [B.cells]⟩ (by simp) (by simp) (by simp) (by simp) fun σ1 H1 L1 => ?_
  clear s0 σ
  obtain ⟨s1, o1⟩ := H1
  simp [s1, o1, B.cells]
  refine loop1093b b (sT b.sorts) (by omega) b.cons hF.nc hc1 ⟨by simp [s1], by simp [o1, B.cells]⟩ (by simp) (by simp) (by simp) ?_ fun σ2 L2 => ?_
  · rcases L1 with ⟨h1, h2⟩ | ⟨K, hK, h1, h2⟩
    · exact .inl ⟨by simp [h1], h2⟩
    · exact .inr ⟨K, hK, by simp [h1], by simp [h2]⟩
  clear L1 s1 o1 σ1
  rw [show sT b.sorts ++ kT b.cons = b.terms from rfl] at L2
  have htl : b.terms.length ≤ 100000 := by rw [B.terms, List.length_append]; omega
  rcases L2 with ⟨h1, h2⟩ | ⟨K, hK, h1, h2⟩
  · exfalso
    have : 0 < b.terms.length := by
      rw [B.terms, List.length_append]
      cases e : b.sorts with
      | nil => simp [e] at hn
      | cons s l => simp [sT, tsS]; omega
    rw [h2] at this; simp at this
  · have hok := terms_ok hO
    simp at hK
    rcases hK with rfl | rfl
    · simp [h1, h2]
      refine loop1093c b.terms htl hok 1093026 (by simp) (by simp) (by simp [h2]) (by simp) (by simp) (by simp) fun σ' q8 => ?_
      simp [q8, r1093, ib, B.names]
    · simp [h1, h2]
      refine loop1093c b.terms htl hok 1093046 (by simp) (by simp) (by simp [h2]) (by simp) (by simp) (by simp) fun σ' q8 => ?_
      simp [q8, r1093, ib, B.names]
end Go.Abs

namespace Go.Abs
open Go.Proofs
/-! ### entries -/
structure En where
  kind : Int
  typ : T
  body : T
  base : Int
  which : Int
  block : B
def En.cells (e : En) : List Cell := [.v (.int .i64 e.kind), .v (.int .i64 e.typ.kind), .v (.int .i64 e.typ.val), .sl 3 40 (e.typ.kids.map T.cells), .v (.int .i64 e.body.kind), .v (.int .i64 e.body.val), .sl 3 40 (e.body.kids.map T.cells),
  .v (.int .i64 e.base), .v (.int .i64 e.which), .sl 6 80 (e.block.sorts.map S.cells), .sl 6 96 (e.block.cons.map K.cells), .v (.int .i64 e.block.elim)]
def enm (e : En) : AV := .agg e.cells
def ens (l : List En) : AV := .c (.sl 12 160 (l.map En.cells))
def B.bare (b : B) : Bool := decide (b.sorts.length + b.cons.length = 0) && decide (b.elim = 0)
theorem fn1082g (b : B) : Fn Tryz.prog 82 [bm b] (bb b.bare) := by
  refine fn_of (base := 1082000) ok1082 rfl fun σ h0 hr => ?_
  have s0 : σ.sl 0 = bm b := h0 0
  have hl1 := real_b1 (hr (bm b) (by simp))
  have hl2 := real_b2 (hr (bm b) (by simp))
  simp only [bm, B.cells] at s0
  clear h0 hr
  unfold c1082
  have w0 : IntKind.wrap .i64 ((b.sorts.length : Int) + b.cons.length) = ((b.sorts.length + b.cons.length : Nat) : Int) := by rw [wrap_id (by omega) (by omega)]; omega
  generalize hn : b.sorts.length + b.cons.length = n at *
  by_cases c1 : n = 0
  · have c1' : (n : Int) = 0 := by omega
    simp [s0, w0, c1, c1', r1082, bb, B.bare, hn]
  · have c1' : ¬ (n : Int) = 0 := by omega
    simp [s0, w0, c1, c1', r1082, bb, B.bare, hn]
def En.number (e : En) : Int := if e.kind = 3 then e.block.former e.base e.which else if e.kind = 4 then e.block.decoder e.base e.which else if e.kind = 5 then e.block.constr e.base e.which else e.block.elimn e.base e.which
theorem fn1084 (e : En) : Fn Tryz.prog 84 [enm e] (ib e.number) := by
  refine fn_of (base := 1084000) ok1084 rfl fun σ h0 hr => ?_
  have s0 : σ.sl 0 = enm e := h0 0
  simp only [enm, En.cells] at s0
  clear h0 hr
  unfold c1084
  by_cases k3 : e.kind = 3
  · simp [s0, k3]
    refine ECall.fn (fn1114 e.block e.base e.which) (by simp [bm, B.cells, ib]) (by simp) rfl fun _ => ?_
    simp [r1084, ib, En.number, k3]
  · by_cases k4 : e.kind = 4
    · simp [s0, k3, k4]
      refine ECall.fn (fn1115 e.block e.base e.which) (by simp [bm, B.cells, ib]) (by simp) rfl fun _ => ?_
      simp [r1084, ib, En.number, k3, k4]
    · by_cases k5 : e.kind = 5
      · simp [s0, k3, k4, k5]
        refine ECall.fn (fn1116 e.block e.base e.which) (by simp [bm, B.cells, ib]) (by simp) rfl fun _ => ?_
        simp [r1084, ib, En.number, k3, k4, k5]
      · simp [s0, k3, k4, k5]
        refine ECall.fn (fn1117 e.block e.base e.which) (by simp [bm, B.cells, ib]) (by simp) rfl fun _ => ?_
        simp [r1084, ib, En.number, k3, k4, k5]
def En.right (e : En) (i : Int) : Bool := e.typ.scope 0 i &&
  (if e.kind = 1 then decide (e.base = 0) && decide (e.which = 0) && e.block.bare && e.body.none
   else if e.kind = 2 then decide (e.base = 0) && decide (e.which = 0) && e.block.bare && e.body.scope 0 i
   else if e.kind = 3 ∨ e.kind = 4 ∨ e.kind = 5 ∨ e.kind = 6 then e.body.none && decide (0 ≤ e.base) && decide (e.number = i) else false)
theorem fn1052g (e : En) (i : Int) : Fn Tryz.prog 52 [enm e, ib i] (bb (e.right i)) := by
  refine fn_of (base := 1052000) ok1052 rfl fun σ h0 hr => ?_
  have s0 : σ.sl 0 = enm e := h0 0
  have s1 : σ.sl 1 = .c (.v (.int .i64 i)) := h0 1
  simp only [enm, En.cells] at s0
  clear h0 hr
  unfold c1052
  simp [s0, s1]
  refine ECall.fn (fn30 e.typ 0 i) (by simp [tm, ib, cells_eq]) (by simp) rfl fun _ => ?_
  cases hs : e.typ.scope 0 i with
  | false => simp [bb, r1052, En.right, hs]
  | true =>
    have hb := fn1082g e.block
    have hn := fn1083g e.body
    have hsc := fn30 e.body 0 i
    have hnum := fn1084 e
    by_cases k1 : e.kind = 1
    · simp [bb, k1]
      by_cases c1 : e.base = 0
      · by_cases c2 : e.which = 0
        · simp [c1, c2]
          refine GCall.fn (fun _ => hb) (by simp [bm, B.cells]) (by simp) rfl fun _ => ?_
          simp [bb]
          refine GCall.fn (fun _ => hn) (by simp [tm, cells_eq]) (by simp) rfl fun _ => ?_
          simp [bb, r1052, En.right, hs, k1, c1, c2]
        · simp [c1, c2]
          refine GCall.fn (fun _ => hb) (by simp [bm, B.cells]) (by simp) rfl fun _ => ?_
          simp [bb]
          refine GCall.fn (fun _ => hn) (by simp [tm, cells_eq]) (by simp) rfl fun _ => ?_
          simp [bb, r1052, En.right, hs, k1, c1, c2]
      · simp [c1]
        refine GCall.fn (fun _ => hb) (by simp [bm, B.cells]) (by simp) rfl fun _ => ?_
        simp [bb]
        refine GCall.fn (fun _ => hn) (by simp [tm, cells_eq]) (by simp) rfl fun _ => ?_
        simp [bb, r1052, En.right, hs, k1, c1]
    · by_cases k2 : e.kind = 2
      · simp [bb, k1, k2]
        by_cases c1 : e.base = 0
        · by_cases c2 : e.which = 0
          · simp [c1, c2]
            refine GCall.fn (fun _ => hb) (by simp [bm, B.cells]) (by simp) rfl fun _ => ?_
            simp [bb, s1]
            refine GCall.fn (fun _ => hsc) (by simp [tm, cells_eq, ib]) (by simp) rfl fun _ => ?_
            simp [bb, r1052, En.right, hs, k1, k2, c1, c2]
          · simp [c1, c2]
            refine GCall.fn (fun _ => hb) (by simp [bm, B.cells]) (by simp) rfl fun _ => ?_
            simp [bb, s1]
            refine GCall.fn (fun _ => hsc) (by simp [tm, cells_eq, ib]) (by simp) rfl fun _ => ?_
            simp [bb, r1052, En.right, hs, k1, k2, c1, c2]
        · simp [c1]
          refine GCall.fn (fun _ => hb) (by simp [bm, B.cells]) (by simp) rfl fun _ => ?_
          simp [bb, s1]
          refine GCall.fn (fun _ => hsc) (by simp [tm, cells_eq, ib]) (by simp) rfl fun _ => ?_
          simp [bb, r1052, En.right, hs, k1, k2, c1]
      · by_cases k36 : e.kind = 3 ∨ e.kind = 4 ∨ e.kind = 5 ∨ e.kind = 6
        · have hdef : e.right i = (e.body.none && decide (0 ≤ e.base) && decide (e.number = i)) := by
            unfold En.right
            rw [hs, if_neg k1, if_neg k2, if_pos k36, Bool.true_and]
          rw [hdef]
          rcases k36 with k3 | k3 | k3 | k3 <;>
          · simp [bb, k3]
            refine ECall.fn hn (by simp [tm, cells_eq]) (by simp) rfl fun _ => ?_
            cases hnn : e.body.none with
            | false =>
              simp [bb]
              refine GCall.fn (fun _ => hnum) (by simp [enm, En.cells, k3]) (by simp) rfl fun _ => ?_
              simp [bb, s1, ib, r1052]
            | true =>
              by_cases c1 : 0 ≤ e.base
              · simp [bb, c1]
                refine GCall.fn (fun _ => hnum) (by simp [enm, En.cells, k3]) (by simp) rfl fun _ => ?_
                simp [bb, s1, ib, r1052]
              · simp [bb, c1]
                refine GCall.fn (fun _ => hnum) (by simp [enm, En.cells, k3]) (by simp) rfl fun _ => ?_
                simp [bb, s1, ib, r1052]
        · have h3 : e.kind ≠ 3 := fun h => k36 (by simp [h])
          have h4 : e.kind ≠ 4 := fun h => k36 (by simp [h])
          have h5 : e.kind ≠ 5 := fun h => k36 (by simp [h])
          have h6 : e.kind ≠ 6 := fun h => k36 (by simp [h])
          simp [bb, k1, k2, h3, h4, h5, h6, r1052, En.right]
/-! ### known blocks -/
def B.known (b : B) (base : Int) : Bool := decide (b.posit base = 0) && decide (b.names < base + b.count)
theorem posit_facts {b : B} {base : Int} (h : b.posit base = 0) : b.Form ∧ 0 < b.sorts.length ∧ 0 ≤ base ∧ base ≤ 65535 := by
  unfold B.posit at h
  by_cases hs : b.shape = 0
  · rw [if_neg (by simp [hs])] at h
    by_cases hb : base < 0 ∨ 65535 < base
    · rw [if_pos hb] at h; cases h
    · refine ⟨shape_form hs, ?_, by omega, by omega⟩
      have hb : b.shapeB = true := by
        unfold B.shape at hs
        split at hs
        · assumption
        · cases hs
      simp only [B.shapeB, Bool.and_eq_true, Bool.not_eq_true', Bool.or_eq_false_iff, decide_eq_false_iff_not] at hb
      omega
  · rw [if_pos hs] at h; exact absurd h hs
theorem fn1054 (b : B) (base : Int) (hO : b.Ok) : Fn Tryz.prog 54 [bm b, ib base] (bb (b.known base)) := by
  refine fn_of (base := 1054000) ok1054 rfl fun σ h0 hr => ?_
  have s0 : σ.sl 0 = bm b := h0 0
  have s1 : σ.sl 1 = .c (.v (.int .i64 base)) := h0 1
  have hl1 := real_b1 (hr (bm b) (by simp))
  have hl2 := real_b2 (hr (bm b) (by simp))
  simp only [bm, B.cells] at s0
  clear h0 hr
  unfold c1054
  have hct := fn1094 b
  simp [s0, s1]
  refine W_dregA ?_
  simp [s0, s1]
  refine CallA.fn (fn1092 b base hO) (by simp [bm, B.cells, ib]) (by simp) rfl ?_
  by_cases hp : b.posit base = 0
  · obtain ⟨hF, hn, hb0, hb1⟩ := posit_facts hp
    have hnm := fn1093 b hF hO hn
    have hle := decs_le b.sorts b.sorts.length
    have w1 : IntKind.wrap .i64 (base + (b.count : Int)) = base + b.count := by
      have : b.count ≤ 1000000000000000 := by unfold B.count; omega
      exact wrap_id (by omega) (by omega)
    simp [ib, hp]
    refine GCallA.fn (fun _ => hnm) (by simp [bm, B.cells]) (by simp) rfl ?_
    simp [ib, s1]
    refine GCallA.fn (fun _ => hct) (by simp [bm, B.cells]) (by simp) rfl ?_
    simp [ib, w1]
    refine realC_n ?_
    simp [r1054, bb, B.known, hp]
  · simp [ib, hp]
    refine GCallA.fn (res := ib 0) (fun h => by cases h) rfl (by simp) rfl ?_
    simp [ib, s1]
    refine GCallA.fn (fun _ => hct) (by simp [bm, B.cells]) (by simp) rfl ?_
    simp [ib]
    refine realC_n ?_
    simp [r1054, bb, B.known, hp]
end Go.Abs

namespace Go.Abs
open Go.Proofs
structure En.Ok (e : En) : Prop where
  typ : e.typ.ok
  body : e.body.ok
  block : e.block.Ok
/-! ### the blocks that were seen -/
abbrev BM := List (Int × B)
def enB (ms : BM) : List (Int × List Cell) := ms.map fun p => (p.1, p.2.cells)
def getM (ms : BM) (n : Int) : Option B := (ms.find? fun p => p.1 == n).map (·.2)
def setM (ms : BM) (n : Int) (b : B) : BM := match ms.findIdx? (fun p => p.1 == n) with
  | some j => ms.set j (n, b)
  | none => ms ++ [(n, b)]
theorem getM_enB (ms : BM) (n : Int) : mgetL (enB ms) n = (getM ms n).map B.cells := by
  induction ms with
  | nil => rfl
  | cons p ms ih =>
    simp only [mgetL, getM, enB, List.map_cons, List.find?_cons] at ih ⊢
    by_cases h : (p.1 == n) = true
    · simp [h]
    · simp only [h]; exact ih
theorem setM_enB (ms : BM) (n : Int) (b : B) : msetL (enB ms) n b.cells = enB (setM ms n b) := by
  have h : (enB ms).findIdx? (fun p => p.1 == n) = ms.findIdx? (fun p => p.1 == n) := by
    induction ms with
    | nil => rfl
    | cons p ms ih =>
      simp only [enB, List.map_cons, List.findIdx?_cons] at ih ⊢
      rw [ih]
  unfold msetL setM
  rw [h]
  cases ms.findIdx? (fun p => p.1 == n) with
  | some j => simp [enB, List.map_set]
  | none => simp [enB]
def chkE : List En → Nat → BM → Int
  | [], _, _ => 0
  | e :: l, i, ms => if e.right i = false then 12 else if e.kind < 3 then chkE l (i + 1) ms else
    match getM ms e.base with
    | some b => if b.eqb e.block then chkE l (i + 1) (setM ms e.base e.block) else 12
    | none => if e.block.known e.base then chkE l (i + 1) (setM ms e.base e.block) else 12
def chkR (l : List En) : Int := if 200 < l.length then 13 else chkE l 0 []
theorem fn1027g (l : List En) (hO : ∀ e, e ∈ l → e.Ok) : Fn Tryz.prog 27 [ens l] (ib (chkR l)) := by
  refine fn_of (base := 1027000) ok1027 rfl fun σ h0 hr => ?_
  have s0 : σ.sl 0 = .c (.sl 12 160 (l.map En.cells)) := h0 0
  clear h0 hr
  unfold c1027
  by_cases hl : 200 < l.length
  · have hl' : (200 : Int) < l.length := by omega
    simp [s0, hl, hl', r1027, ib, chkR]
  · have hl' : ¬ (200 : Int) < l.length := by omega
    have hdef : chkR l = chkE l 0 [] := by rw [chkR, if_neg hl]
    rw [hdef]
    simp [s0, hl', -W_block]
    rw [W_block]
    refine W_loop (fun m σ => ∃ i ms, i + m = l.length ∧ chkE (l.drop i) i ms = chkE l 0 [] ∧ σ.sl 3 = .c (.mp 1027011 (σ.tg 1027011)) ∧ σ.ob 1027011 = some (.mob false (enB ms)) ∧ σ.sl 12 = .c (.sl 12 160 (l.map En.cells)) ∧ σ.sl 13 = .c (.v (.int .i64 l.length)) ∧ σ.sl 14 = .c (.v (.int .i64 (i : Nat)))) l.length ?_ ?_
    · exact ⟨0, [], by simp, by simp, by simp, by simp [enB], by simp [s0], by simp, by simp⟩
    clear s0 σ
    rintro m σ ⟨i, ms, hm, hp, s3, o3, s12, s13, s14⟩
    unfold c1027b0
    by_cases hi : i < l.length
    · have w1 := wrap_succ (i := i) (by omega)
      obtain ⟨e, ht1⟩ := at_of hi
      obtain ⟨_, ht2⟩ := getE ht1
      have heo := hO e (List.mem_of_getElem? ht1)
      rw [drop_at ht1, chkE] at hp
      simp [s3, o3, s12, s13, s14, hi, ht2, En.cells]
      refine ECall.fn (fn1052g e i) (by simp [enm, En.cells, ib]) (by simp) rfl fun _ => ?_
      cases hs : e.right (i : Int) with
      | false =>
        rw [hs] at hp
        simp at hp
        simp [bb, r1027, ib, ← hp]
      | true =>
        rw [hs] at hp
        by_cases k3 : e.kind < 3
        · rw [if_neg (by simp), if_pos k3] at hp
          simp [bb, k3, s3, o3, s12, s13, s14, w1]
          exact ⟨m - 1, by omega, i + 1, by omega, ms, hp, rfl, by simp⟩
        · rw [if_neg (by simp), if_neg k3] at hp
          have hset := setM_enB ms e.base e.block
          have hkn := fn1054 e.block e.base heo.block
          cases hg : getM ms e.base with
          | some b =>
            have hget : mgetL (enB ms) e.base = some b.cells := by rw [getM_enB, hg]; rfl
            rw [hg] at hp
            simp only [] at hp
            simp only [B.cells] at hget hset
            simp [bb, k3, s3, o3, hget, mres, mval]
            refine GCall.fn (fun _ => fn1053 b e.block) (by simp [bm, B.cells]) (by simp) rfl fun _ => ?_
            simp [bb]
            refine GCall.fn (fun _ => hkn) (by simp [bm, B.cells, ib]) (by simp) rfl fun _ => ?_
            cases hq : b.eqb e.block with
            | false =>
              rw [hq] at hp
              simp at hp
              simp [bb, r1027, ib, ← hp]
            | true =>
              rw [hq] at hp
              simp at hp
              simp [bb, s3, o3, hset, s12, s13, s14, w1]
              exact ⟨m - 1, by omega, i + 1, by omega, _, hp, rfl, by simp⟩
          | none =>
            have hget : mgetL (enB ms) e.base = none := by rw [getM_enB, hg]; rfl
            rw [hg] at hp
            simp only [] at hp
            simp only [B.cells] at hset
            simp [bb, k3, s3, o3, hget, mres, mval, Cell.plain]
            refine GCall.fn (fun _ => fn1053 ⟨[], [], 0⟩ e.block) (by simp [bm, B.cells]) (by simp) rfl fun _ => ?_
            simp [bb]
            refine GCall.fn (fun _ => hkn) (by simp [bm, B.cells, ib]) (by simp) rfl fun _ => ?_
            cases hq : e.block.known e.base with
            | false =>
              rw [hq] at hp
              simp at hp
              simp [bb, r1027, ib, ← hp]
            | true =>
              rw [hq] at hp
              simp at hp
              simp [bb, s3, o3, hset, s12, s13, s14, w1]
              exact ⟨m - 1, by omega, i + 1, by omega, _, hp, rfl, by simp⟩
    · have : i = l.length := by omega
      subst this
      simp [chkE] at hp
      simp [s12, s13, s14, r1027, ib, ← hp]
end Go.Abs

namespace Go.Abs
open Go.Proofs Go.Proofs.YtfgjannlepahgaaGreat Go.RowKit
/-! ### rows of entries, as they are handed in -/
def BB : Nat := 1048576
section
variable {H : Type} {enc : TypeId × Value → H} {w : World}
/-- A slice of whatever is read. -/
theorem slice_reads {α : Type} [Inhabited α] (cells : α → List Cell) (ok : α → Prop) {sz bs tsl tel : Nat} (hund : Tryz.prog.underlying tsl = some (.slice tel)) (hcell : Tryz.prog.cellsOf tel = sz) (hlen : ∀ a, (cells a).length = sz) (hD : ∀ a d, d ∈ cells a → d.isD = true) (hroom : BB * bs ≤ room)
    {fuel : Nat} {cs : List Value} {x : DataW H × List MemPlace} (h : DataW.trod enc Tryz.prog w 0 (fun _ => true) true fuel tsl cs = some x) (hb : Rows.uptoBulk x.1 ≤ BB)
    (hel : ∀ {fuel : Nat} {cs : List Value} {y : DataW H × List MemPlace}, DataW.trod enc Tryz.prog w 0 (fun _ => true) true fuel tel cs = some y → Rows.uptoBulk y.1 ≤ BB → ∃ a, All2 (RC (gOf w) w) (cells a) cs ∧ ok a) :
    ∃ l : List α, (∃ v, cs = [v] ∧ RC (gOf w) w (.sl sz bs (l.map cells)) v) ∧ ∀ a, a ∈ l → ok a := by
  rcases Go.Deep.open_slice hund h with ⟨e2, _⟩ | ⟨a, len, cap, mm, nn, D, Pl, e2, _, hl, _, hm, rfl, hx⟩
  · exact ⟨[], ⟨_, e2, (nil_spec (gOf w) w sz bs).1⟩, by simp⟩
  · simp only [if_true] at hm
    subst hm
    simp only [Rows.uptoBulk] at hb
    have hlen2 : len ≤ BB := by
      have := bulk_all_len ((List.range len).map D)
      simp at this
      omega
    have hk : ∀ i, ∃ (t : α) (us : List Value), i < len → w.cells? 0 (a.add (i * sz)) sz = some us ∧ All2 (RC (gOf w) w) (cells t) us ∧ ok t := fun i => by
      by_cases hi : i < len
      · obtain ⟨us, hu1, hu2⟩ := hx i (by omega)
        rw [hcell] at hu1
        have hDm : D i ∈ (List.range len).map D := List.mem_map.2 ⟨i, by simpa using hi, rfl⟩
        have hle := bulk_mem hDm
        obtain ⟨t, ht, hok⟩ := hel hu2 (by simp only; omega)
        exact ⟨t, us, fun _ => ⟨hu1, ht, hok⟩⟩
      · exact ⟨default, [], fun h => absurd h hi⟩
    refine ⟨(List.range len).map fun i => Classical.choose (hk i), ⟨_, e2, ?_⟩, fun t ht => ?_⟩
    rotate_left
    · obtain ⟨i, hi, rfl⟩ := List.mem_map.1 ht
      obtain ⟨us, h2⟩ := Classical.choose_spec (hk i)
      exact (h2 (by simpa using hi)).2.2
    have hspec : ∀ i, i < len → ∃ us, w.cells? 0 (a.add (i * sz)) sz = some us ∧ All2 (RC (gOf w) w) (cells (Classical.choose (hk i))) us := fun i hi => by
      obtain ⟨us, h⟩ := Classical.choose_spec (hk i)
      exact ⟨us, (h hi).1, (h hi).2.1⟩
    have hat : ∀ i j, ∃ v, i < len → j < sz → ∀ d, (cells (Classical.choose (hk i)))[j]? = some d → w.cell? (a.add (i * sz + j)) = some v ∧ RC (gOf w) w d v := fun i j => by
      by_cases hi : i < len
      · obtain ⟨us, hu, hall⟩ := hspec i hi
        by_cases hj : j < sz
        · have hul : us.length = sz := by have := hall.length; rw [hlen] at this; exact this.symm
          refine ⟨us[j]'(by omega), fun _ _ d hd => ?_⟩
          unfold World.cells? at hu
          rw [if_pos (Nat.zero_le _)] at hu
          have hg := mapM_some_get hu j j (by simp [hj])
          rw [List.getElem?_eq_getElem (by omega)] at hg
          rw [Addr.add_add] at hg
          obtain ⟨b, hb1, hb2⟩ := hall.get j d hd
          rw [List.getElem?_eq_getElem (by omega)] at hb1
          cases hb1
          exact ⟨hg, hb2⟩
        · exact ⟨undef, fun _ h => absurd h hj⟩
      · exact ⟨undef, fun h => absurd h hi⟩
    have hes : ∀ (i j : Nat) l d, (((List.range len).map fun i => Classical.choose (hk i)).map cells)[i]? = some l → l[j]? = some d → i < len ∧ j < sz ∧ (cells (Classical.choose (hk i)))[j]? = some d := fun i j l d e1 e2 => by
      simp only [List.getElem?_map, Option.map_eq_some_iff, List.getElem?_eq_some_iff] at e1
      obtain ⟨t, ⟨i', ⟨hi', e3⟩, rfl⟩, rfl⟩ := e1
      simp at e3 hi'
      subst e3
      have hj := (List.getElem?_eq_some_iff.1 e2).1
      rw [hlen] at hj
      exact ⟨hi', hj, e2⟩
    have key : RD (gOf w) w (.sl sz bs (((List.range len).map fun i => Classical.choose (hk i)).map cells)) (.slice (some a) (((List.range len).map fun i => Classical.choose (hk i)).map cells).length mm) := by
      refine .sl sz bs _ (some a) mm (fun i j => Classical.choose (hat i j)) (by simpa using hl) (by simp; exact Nat.le_trans (Nat.mul_le_mul_right _ hlen2) hroom) (fun l hl => ?_) (fun i j l d e1 e2 => ?_) (fun i j l d e1 e2 => ?_)
      · obtain ⟨t, _, rfl⟩ := List.mem_map.1 hl
        exact hlen t
      · obtain ⟨hi, hj, hd⟩ := hes i j l d e1 e2
        have := (Classical.choose_spec (hat i j) hi hj d hd).1
        exact ⟨_, rfl, cell_lt this, this⟩
      · obtain ⟨hi, hj, hd⟩ := hes i j l d e1 e2
        have := (Classical.choose_spec (hat i j) hi hj d hd).2
        exact isD_spec this (hD _ d (List.mem_of_getElem? hd))
    have key2 : RC (gOf w) w (.sl sz bs (((List.range len).map fun i => Classical.choose (hk i)).map cells)) (.slice (some a) (((List.range len).map fun i => Classical.choose (hk i)).map cells).length mm) := key
    simpa using key2
instance : Inhabited A := ⟨⟨false, default, [], 0, []⟩⟩
instance : Inhabited S := ⟨⟨[], 0, false, default⟩⟩
instance : Inhabited K := ⟨⟨0, [], [], default⟩⟩
instance : Inhabited En := ⟨⟨0, default, default, 0, 0, ⟨[], [], 0⟩⟩⟩
theorem cell126 : Tryz.prog.cellsOf 126 = 7 := by kernel_rfl
theorem cell102 : Tryz.prog.cellsOf 102 = 1 := by kernel_rfl
theorem cell104 : Tryz.prog.cellsOf 104 = 6 := by kernel_rfl
theorem cell106 : Tryz.prog.cellsOf 106 = 6 := by kernel_rfl
theorem cell65 : Tryz.prog.cellsOf 65 = 1 := by kernel_rfl
theorem cell66 : Tryz.prog.cellsOf 66 = 1 := by kernel_rfl
theorem cell68 : Tryz.prog.cellsOf 68 = 3 := by kernel_rfl
theorem cell70 : Tryz.prog.cellsOf 70 = 12 := by kernel_rfl
theorem cell4 : Tryz.prog.cellsOf 4 = 1 := by kernel_rfl
/-- A term of a row. -/
theorem tread {fuel : Nat} {cs : List Value} {x : DataW H × List MemPlace} (h : DataW.trod enc Tryz.prog w 0 (fun _ => true) true fuel 63 cs = some x) (hb : Rows.uptoBulk x.1 ≤ BB) : ∃ t : T, All2 (RC (gOf w) w) t.cells cs ∧ t.ok := by
  obtain ⟨t, h1, h2, h3⟩ := term_reads (B := BB) (by simp [room, BB]) _ h (Nat.le_refl _) hb
  exact ⟨t, h1, Nat.le_trans h2 hb, h3⟩
theorem tsread {fuel : Nat} {cs : List Value} {x : DataW H × List MemPlace} (h : DataW.trod enc Tryz.prog w 0 (fun _ => true) true fuel 61 cs = some x) (hb : Rows.uptoBulk x.1 ≤ BB) :
    ∃ l : List T, (∃ v, cs = [v] ∧ RC (gOf w) w (.sl 3 40 (l.map T.cells)) v) ∧ ∀ a, a ∈ l → a.ok :=
  slice_reads T.cells T.ok Tryz.underlying61 cell24 cells_len cells_isD' (by simp [room, BB]) h hb tread
/-- The fields of a struct. -/
theorem fields {t : Nat} {fs : Array Field} {fuel : Nat} {cs : List Value} {x : DataW H × List MemPlace} (ht : Tryz.prog.underlying t = some (.struct fs)) (h : DataW.trod enc Tryz.prog w 0 (fun _ => true) true fuel t cs = some x) (hb : Rows.uptoBulk x.1 ≤ BB) :
    cs.length = Tryz.prog.cellsOf t ∧ ∀ (i ty off : Nat), (fs[i]?).map (fun f => (f.type, f.offset)) = some (ty, off) → ∃ n y, DataW.trod enc Tryz.prog w 0 (fun _ => true) true n ty ((cs.drop off).take (Tryz.prog.cellsOf ty)) = some y ∧ Rows.uptoBulk y.1 ≤ BB := by
  obtain ⟨xs, n, _, rfl, hl, hn, hf⟩ := DataW.trod_struct ht h
  refine ⟨hl, fun i ty off hi0 => ?_⟩
  obtain ⟨f, hi, hto⟩ := Option.map_eq_some_iff.1 hi0
  cases hto
  have hi2 : i < xs.length := by rw [hn]; exact (Array.getElem?_eq_some_iff.1 hi).1
  refine ⟨n, xs[i], ?_, ?_⟩
  · rw [hf i f hi, List.getElem?_eq_getElem hi2]
  · have : xs[i].1 ∈ xs.map (·.1) := List.mem_map.2 ⟨xs[i], List.getElem_mem hi2, rfl⟩
    have := bulk_mem this
    simp only [Rows.uptoBulk] at hb
    omega
theorem seven {α : Type} : ∀ {l : List α}, l.length = 7 → ∃ a b c d e f g, l = [a, b, c, d, e, f, g]
  | [a, b, c, d, e, f, g], _ => ⟨a, b, c, d, e, f, g, rfl⟩
theorem six {α : Type} : ∀ {l : List α}, l.length = 6 → ∃ a b c d e f, l = [a, b, c, d, e, f]
  | [a, b, c, d, e, f], _ => ⟨a, b, c, d, e, f, rfl⟩
theorem twelve {α : Type} : ∀ {l : List α}, l.length = 12 → ∃ a b c d e f g h i j k m, l = [a, b, c, d, e, f, g, h, i, j, k, m]
  | [a, b, c, d, e, f, g, h, i, j, k, m], _ => ⟨a, b, c, d, e, f, g, h, i, j, k, m, rfl⟩
theorem t_three {t : T} {a b c : Value} (h : All2 (RC (gOf w) w) t.cells [a, b, c]) : RC (gOf w) w (.v (.int .i64 t.kind)) a ∧ RC (gOf w) w (.v (.int .i64 t.val)) b ∧ RC (gOf w) w (.sl 3 40 (t.kids.map T.cells)) c := by
  rw [cells_eq] at h
  exact ⟨h.1, h.2.1, h.2.2.1⟩
theorem aread {fuel : Nat} {cs : List Value} {x : DataW H × List MemPlace} (h : DataW.trod enc Tryz.prog w 0 (fun _ => true) true fuel 126 cs = some x) (hb : Rows.uptoBulk x.1 ≤ BB) : ∃ a : A, All2 (RC (gOf w) w) a.cells cs ∧ a.Ok := by
  obtain ⟨hl, hf⟩ := fields Tryz.underlying126 h hb
  rw [cell126] at hl
  obtain ⟨v0, v1, v2, v3, v4, v5, v6, rfl⟩ := seven hl
  obtain ⟨n0, y0, g0, b0⟩ := hf 0 4 0 rfl
  obtain ⟨n1, y1, g1, b1⟩ := hf 1 63 1 rfl
  obtain ⟨n2, y2, g2, b2⟩ := hf 2 61 4 rfl
  obtain ⟨n3, y3, g3, b3⟩ := hf 3 3 5 rfl
  obtain ⟨n4, y4, g4, b4⟩ := hf 4 61 6 rfl
  simp only [cell4, cell24, cell22, cell3, List.drop_zero, List.drop_succ_cons, List.take_succ_cons, List.take_zero] at g0 g1 g2 g3 g4
  obtain ⟨r, e0, _⟩ := DataW.trod_bool Tryz.underlying4 g0
  cases e0
  obtain ⟨t, ht, hto⟩ := tread g1 b1
  obtain ⟨h1, h2, h3⟩ := t_three ht
  obtain ⟨d, ⟨_, e2, hd⟩, hdo⟩ := tsread g2 b2
  cases e2
  obtain ⟨s, e3, _, _⟩ := DataW.trod_int Tryz.underlying3 g3
  cases e3
  obtain ⟨ix, ⟨_, e4, hix⟩, hixo⟩ := tsread g4 b4
  cases e4
  exact ⟨⟨r, t, d, s, ix⟩, ⟨.v _ rfl, h1, h2, h3, hd, .v _ rfl, hix, trivial⟩, ⟨hto, hdo, hixo⟩⟩
theorem acells_len (a : A) : a.cells.length = 7 := rfl
theorem acells_isD (a : A) (d : Cell) (h : d ∈ a.cells) : d.isD = true := by
  simp [A.cells] at h
  rcases h with rfl | rfl | rfl | rfl | rfl | rfl | rfl <;> rfl
theorem asread {fuel : Nat} {cs : List Value} {x : DataW H × List MemPlace} (h : DataW.trod enc Tryz.prog w 0 (fun _ => true) true fuel 102 cs = some x) (hb : Rows.uptoBulk x.1 ≤ BB) :
    ∃ l : List A, (∃ v, cs = [v] ∧ RC (gOf w) w (.sl 7 104 (l.map A.cells)) v) ∧ ∀ a, a ∈ l → a.Ok :=
  slice_reads A.cells A.Ok Tryz.underlying102 cell126 acells_len acells_isD (by simp [room, BB]) h hb aread
theorem sread {fuel : Nat} {cs : List Value} {x : DataW H × List MemPlace} (h : DataW.trod enc Tryz.prog w 0 (fun _ => true) true fuel 104 cs = some x) (hb : Rows.uptoBulk x.1 ≤ BB) : ∃ a : S, All2 (RC (gOf w) w) a.cells cs ∧ a.Ok := by
  obtain ⟨hl, hf⟩ := fields Tryz.underlying104 h hb
  rw [cell104] at hl
  obtain ⟨v0, v1, v2, v3, v4, v5, rfl⟩ := six hl
  obtain ⟨n0, y0, g0, b0⟩ := hf 0 102 0 rfl
  obtain ⟨n1, y1, g1, b1⟩ := hf 1 3 1 rfl
  obtain ⟨n2, y2, g2, b2⟩ := hf 2 4 2 rfl
  obtain ⟨n3, y3, g3, b3⟩ := hf 3 63 3 rfl
  simp only [cell4, cell24, cell22, cell3, cell102, List.drop_zero, List.drop_succ_cons, List.take_succ_cons, List.take_zero] at g0 g1 g2 g3
  obtain ⟨ix, ⟨_, e0, hix⟩, hixo⟩ := asread g0 b0
  cases e0
  obtain ⟨lv, e1, _, _⟩ := DataW.trod_int Tryz.underlying3 g1
  cases e1
  obtain ⟨r, e2, _⟩ := DataW.trod_bool Tryz.underlying4 g2
  cases e2
  obtain ⟨t, ht, hto⟩ := tread g3 b3
  obtain ⟨h1, h2, h3⟩ := t_three ht
  exact ⟨⟨ix, lv, r, t⟩, ⟨hix, .v _ rfl, .v _ rfl, h1, h2, h3, trivial⟩, ⟨hixo, hto⟩⟩
theorem scells_isD (a : S) (d : Cell) (h : d ∈ a.cells) : d.isD = true := by
  simp [S.cells] at h
  rcases h with rfl | rfl | rfl | rfl | rfl | rfl <;> rfl
theorem ssread {fuel : Nat} {cs : List Value} {x : DataW H × List MemPlace} (h : DataW.trod enc Tryz.prog w 0 (fun _ => true) true fuel 65 cs = some x) (hb : Rows.uptoBulk x.1 ≤ BB) :
    ∃ l : List S, (∃ v, cs = [v] ∧ RC (gOf w) w (.sl 6 80 (l.map S.cells)) v) ∧ ∀ a, a ∈ l → a.Ok :=
  slice_reads S.cells S.Ok Tryz.underlying65 cell104 (fun _ => rfl) scells_isD (by simp [room, BB]) h hb sread
theorem kread {fuel : Nat} {cs : List Value} {x : DataW H × List MemPlace} (h : DataW.trod enc Tryz.prog w 0 (fun _ => true) true fuel 106 cs = some x) (hb : Rows.uptoBulk x.1 ≤ BB) : ∃ a : K, All2 (RC (gOf w) w) a.cells cs ∧ a.Ok := by
  obtain ⟨hl, hf⟩ := fields Tryz.underlying106 h hb
  rw [cell106] at hl
  obtain ⟨v0, v1, v2, v3, v4, v5, rfl⟩ := six hl
  obtain ⟨n0, y0, g0, b0⟩ := hf 0 3 0 rfl
  obtain ⟨n1, y1, g1, b1⟩ := hf 1 102 1 rfl
  obtain ⟨n2, y2, g2, b2⟩ := hf 2 61 2 rfl
  obtain ⟨n3, y3, g3, b3⟩ := hf 3 63 3 rfl
  simp only [cell4, cell24, cell22, cell3, cell102, List.drop_zero, List.drop_succ_cons, List.take_succ_cons, List.take_zero] at g0 g1 g2 g3
  obtain ⟨so, e0, _, _⟩ := DataW.trod_int Tryz.underlying3 g0
  cases e0
  obtain ⟨ar, ⟨_, e1, har⟩, haro⟩ := asread g1 b1
  cases e1
  obtain ⟨ix, ⟨_, e2, hix⟩, hixo⟩ := tsread g2 b2
  cases e2
  obtain ⟨t, ht, hto⟩ := tread g3 b3
  obtain ⟨h1, h2, h3⟩ := t_three ht
  exact ⟨⟨so, ar, ix, t⟩, ⟨.v _ rfl, har, hix, h1, h2, h3, trivial⟩, ⟨haro, hixo, hto⟩⟩
theorem kcells_isD (a : K) (d : Cell) (h : d ∈ a.cells) : d.isD = true := by
  simp [K.cells] at h
  rcases h with rfl | rfl | rfl | rfl | rfl | rfl <;> rfl
theorem ksread {fuel : Nat} {cs : List Value} {x : DataW H × List MemPlace} (h : DataW.trod enc Tryz.prog w 0 (fun _ => true) true fuel 66 cs = some x) (hb : Rows.uptoBulk x.1 ≤ BB) :
    ∃ l : List K, (∃ v, cs = [v] ∧ RC (gOf w) w (.sl 6 96 (l.map K.cells)) v) ∧ ∀ a, a ∈ l → a.Ok :=
  slice_reads K.cells K.Ok Tryz.underlying66 cell106 (fun _ => rfl) kcells_isD (by simp [room, BB]) h hb kread
theorem bread {fuel : Nat} {cs : List Value} {x : DataW H × List MemPlace} (h : DataW.trod enc Tryz.prog w 0 (fun _ => true) true fuel 68 cs = some x) (hb : Rows.uptoBulk x.1 ≤ BB) : ∃ a : B, All2 (RC (gOf w) w) a.cells cs ∧ a.Ok := by
  obtain ⟨hl, hf⟩ := fields Tryz.underlying68 h hb
  rw [cell68] at hl
  obtain ⟨v0, v1, v2, rfl⟩ := three hl
  obtain ⟨n0, y0, g0, b0⟩ := hf 0 65 0 rfl
  obtain ⟨n1, y1, g1, b1⟩ := hf 1 66 1 rfl
  obtain ⟨n2, y2, g2, b2⟩ := hf 2 3 2 rfl
  simp only [cell65, cell66, cell3, List.drop_zero, List.drop_succ_cons, List.take_succ_cons, List.take_zero] at g0 g1 g2
  obtain ⟨ss, ⟨_, e0, hss⟩, hsso⟩ := ssread g0 b0
  cases e0
  obtain ⟨ks, ⟨_, e1, hks⟩, hkso⟩ := ksread g1 b1
  cases e1
  obtain ⟨el, e2, _, _⟩ := DataW.trod_int Tryz.underlying3 g2
  cases e2
  exact ⟨⟨ss, ks, el⟩, ⟨hss, hks, .v _ rfl, trivial⟩, ⟨hsso, hkso⟩⟩
theorem enread {fuel : Nat} {cs : List Value} {x : DataW H × List MemPlace} (h : DataW.trod enc Tryz.prog w 0 (fun _ => true) true fuel 70 cs = some x) (hb : Rows.uptoBulk x.1 ≤ BB) : ∃ a : En, All2 (RC (gOf w) w) a.cells cs ∧ a.Ok := by
  obtain ⟨hl, hf⟩ := fields Tryz.underlying70 h hb
  rw [cell70] at hl
  obtain ⟨v0, v1, v2, v3, v4, v5, v6, v7, v8, v9, v10, v11, rfl⟩ := twelve hl
  obtain ⟨n0, y0, g0, b0⟩ := hf 0 3 0 rfl
  obtain ⟨n1, y1, g1, b1⟩ := hf 1 63 1 rfl
  obtain ⟨n2, y2, g2, b2⟩ := hf 2 63 4 rfl
  obtain ⟨n3, y3, g3, b3⟩ := hf 3 3 7 rfl
  obtain ⟨n4, y4, g4, b4⟩ := hf 4 3 8 rfl
  obtain ⟨n5, y5, g5, b5⟩ := hf 5 68 9 rfl
  simp only [cell3, cell24, cell68, List.drop_zero, List.drop_succ_cons, List.take_succ_cons, List.take_zero] at g0 g1 g2 g3 g4 g5
  obtain ⟨k, e0, _, _⟩ := DataW.trod_int Tryz.underlying3 g0
  cases e0
  obtain ⟨t, ht, hto⟩ := tread g1 b1
  obtain ⟨h1, h2, h3⟩ := t_three ht
  obtain ⟨u, hu, huo⟩ := tread g2 b2
  obtain ⟨q1, q2, q3⟩ := t_three hu
  obtain ⟨ba, e3, _, _⟩ := DataW.trod_int Tryz.underlying3 g3
  cases e3
  obtain ⟨wh, e4, _, _⟩ := DataW.trod_int Tryz.underlying3 g4
  cases e4
  obtain ⟨bl, hbl, hblo⟩ := bread g5 b5
  exact ⟨⟨k, t, u, ba, wh, bl⟩, ⟨.v _ rfl, h1, h2, h3, q1, q2, q3, .v _ rfl, .v _ rfl, hbl.1, hbl.2.1, hbl.2.2.1, trivial⟩, ⟨hto, huo, hblo⟩⟩
theorem ecells_isD (a : En) (d : Cell) (h : d ∈ a.cells) : d.isD = true := by
  simp [En.cells] at h
  rcases h with rfl | rfl | rfl | rfl | rfl | rfl | rfl | rfl | rfl | rfl | rfl | rfl <;> rfl
theorem und37 : Tryz.prog.underlying 37 = some (.slice 70) := by kernel_rfl
end
set_option maxRecDepth 100000 in
theorem slice_ok37 {w : World} {base : Nat} {v : Value} (h : Value.okWide Tryz.prog w .any base 37 v) : ∃ a n c, v = .slice a n c := Go.WideShapes.okWide_slice und37 h
theorem arg_entries {H : Type} {enc : TypeId × Value → H} {w : World} {v : Value} {d : DataW H} {ps : List MemPlace} (h : DataW.Trod enc Tryz.prog w 0 (fun _ => true) true 37 v d ps) (hv : ∃ a n c, v = .slice a n c) (hb : Rows.uptoBulk d ≤ 1048576) :
    ∃ l : List En, RV2 (gOf w) w (ens l) v ∧ ∀ e, e ∈ l → e.Ok := by
  obtain ⟨fuel, h⟩ := h
  obtain ⟨a0, n0, c0, rfl⟩ := hv
  obtain ⟨l, ⟨v, e, hl⟩, ho⟩ := slice_reads En.cells En.Ok und37 cell70 (fun _ => rfl) ecells_isD (bs := 160) (by simp [room, BB]) h hb enread
  have e' : [Value.slice a0 n0 c0] = [v] := e
  cases e'
  exact ⟨l, fun _ => hl, ho⟩
end Go.Abs

namespace Go.Abs
open Go.Proofs
/-! ### what an entry uses -/
theorem loop1041g {σ : St} {Q : SEx → St → Prop} (cs ks : List Int) (hc : cs.length < 1000000000) (s29 : σ.sl 29 = is cs) (s30 : σ.sl 30 = ib cs.length) (s31 : σ.sl 31 = ib (0 : Nat)) (s5 : σ.sl 5 = .c (.mp 1041011 (σ.tg 1041011))) (o5 : σ.ob 1041011 = some (.mob true (encK ks)))
    (hQ : ∀ σ', KP σ σ' → σ'.ob 1041011 = some (.mob true (encK (addAll cs ks))) → σ'.tg 1041011 = σ.tg 1041011 → Q .normal σ') :
    W Tryz.prog 1041000 (.loop c1041b0) σ (onBlock 2 Q) := by
  refine W_loop (fun m σ' => ∃ (i : Nat) (ks' : List Int), i + m = cs.length ∧ addAll (cs.drop i) ks' = addAll cs ks ∧ KP σ σ' ∧ σ'.sl 29 = is cs ∧ σ'.sl 30 = ib cs.length ∧ σ'.sl 31 = ib i ∧ σ'.ob 1041011 = some (.mob true (encK ks')) ∧ σ'.tg 1041011 = σ.tg 1041011) cs.length ⟨0, ks, by simp [s29, s30, s31, o5]; exact fun _ _ => rfl⟩ ?_
  rintro m σ' ⟨i, ks', hm, hp, hs, q29, q30, q31, qo, qt⟩
  have q5 : σ'.sl 5 = .c (.mp 1041011 (σ'.tg 1041011)) := by rw [hs 5 (by simp), s5, qt]
  simp only [is, ib] at q29 q30 q31
  unfold c1041b0
  by_cases hi : i < cs.length
  · have w1 := wrap_succ (i := i) (by omega)
    obtain ⟨c, hc1⟩ := at_of hi
    obtain ⟨_, hc2⟩ := getE hc1
    rw [drop_at hc1] at hp
    simp [q29, q30, q31, q5, qo, hi, hc2, mset_encK, w1]
    refine ⟨m - 1, by omega, i + 1, by omega, addK ks' c, hp, fun s h => ?_, by simp [is], by simp [ib], by simp [ib], rfl, qt⟩
    rcases h with rfl | rfl | rfl | rfl | rfl | rfl <;> (simp; exact hs _ (by simp))
  · have : i = cs.length := by omega
    subst this
    simp [addAll] at hp
    simp [q29, q30, q31]
    refine hQ _ (fun s h => ?_) (by simp [qo, addAll, hp]) (by simp [qt])
    rcases h with rfl | rfl | rfl | rfl | rfl | rfl <;> (simp; exact hs _ (by simp))
def upK : Nat → Int → List Int → List Int
  | 0, _, ks => ks
  | k + 1, c, ks => upK k (c + 1) (addK ks c)
theorem loop1041u {σ : St} {Q : SEx → St → Prop} (n : Nat) (hn : n ≤ 1000) (b : Int) (hb : 0 ≤ b) (ks : List Int) (s1 : σ.sl 1 = .c (.v (.int .i64 n))) (s10 : σ.sl 10 = .c (.v (.int .i64 b))) (s5 : σ.sl 5 = .c (.mp 1041011 (σ.tg 1041011))) (o5 : σ.ob 1041011 = some (.mob true (encK ks)))
    (hQ : ∀ σ', σ'.sl 5 = .c (.mp 1041011 (σ'.tg 1041011)) → σ'.ob 1041011 = some (.mob true (encK (upK ((n : Int) - b).toNat b ks))) → Q .normal σ') :
    W Tryz.prog 1041000 (.loop c1041b2) σ (onBlock 4 Q) := by
  refine W_loop (fun m σ => ∃ (c : Int) (ks' : List Int), 0 ≤ c ∧ ((n : Int) - c).toNat = m ∧ upK m c ks' = upK ((n : Int) - b).toNat b ks ∧ σ.sl 1 = .c (.v (.int .i64 n)) ∧ σ.sl 10 = .c (.v (.int .i64 c)) ∧ σ.sl 5 = .c (.mp 1041011 (σ.tg 1041011)) ∧ σ.ob 1041011 = some (.mob true (encK ks'))) ((n : Int) - b).toNat ⟨b, ks, hb, rfl, rfl, s1, s10, s5, o5⟩ ?_
  clear s1 s10 s5 o5 σ
  rintro m σ ⟨c, ks', hc, hm, hp, s1, s10, s5, o5⟩
  unfold c1041b2
  by_cases hlt : c < n
  · have w1 : IntKind.wrap .i64 (c + 1) = c + 1 := wrap_id (by omega) (by omega)
    obtain ⟨m', rfl⟩ : ∃ m', m = m' + 1 := ⟨m - 1, by omega⟩
    rw [upK] at hp
    simp [s1, s10, s5, o5, hlt, mset_encK, w1]
    exact ⟨m', by omega, c + 1, by omega, by omega, _, hp, rfl, rfl⟩
  · have : m = 0 := by omega
    subst this
    rw [upK] at hp
    simp [s1, s10, hlt]
    exact hQ _ (by simp [s5]) (by simp [o5, ← hp])
def seenE (n : Nat) (e : En) : List Int :=
  if 3 ≤ e.kind then upK ((n : Int) - e.base).toNat e.base (addAll e.body.consts (addAll e.typ.consts [])) else addAll e.body.consts (addAll e.typ.consts [])
def usesE (n : Nat) (e : En) : List Int := sortI (seenE n e)
theorem consts_mem_ok {t : T} (h : t.ok) : ∀ n, n ∈ t.consts → okI n := fun n hn => (cons_facts t []).2.2 h.2 (by simp) n (sortI_mem.1 hn)
theorem addAll_len : ∀ (cs ks : List Int), (addAll cs ks).length ≤ cs.length + ks.length
  | [], ks => by simp [addAll]
  | c :: cs, ks => by
    have h1 := addAll_len cs (addK ks c)
    have h2 := addK_len ks c
    show (addAll cs (addK ks c)).length ≤ _
    simp; omega
theorem upK_len : ∀ (m : Nat) (c : Int) (ks : List Int), (upK m c ks).length ≤ m + ks.length
  | 0, c, ks => by simp [upK]
  | m + 1, c, ks => by
    have h1 := upK_len m (c + 1) (addK ks c)
    have h2 := addK_len ks c
    rw [upK]; omega
theorem upK_mem : ∀ (m : Nat) (c : Int) (ks : List Int) (x : Int), x ∈ upK m c ks ↔ x ∈ ks ∨ (c ≤ x ∧ x < c + m)
  | 0, c, ks, x => by simp [upK]; omega
  | m + 1, c, ks, x => by
    rw [upK, upK_mem m (c + 1) (addK ks c) x, addK_mem]
    constructor
    · rintro ((h | h) | h)
      · exact .inl h
      · exact .inr (by omega)
      · exact .inr (by omega)
    · rintro (h | h)
      · exact .inl (.inl h)
      · by_cases e : x = c
        · exact .inl (.inr e)
        · exact .inr (by omega)
theorem addAll_nodup : ∀ (cs : List Int) {ks : List Int}, ks.Nodup → (addAll cs ks).Nodup
  | [], ks, h => by simpa [addAll] using h
  | c :: cs, ks, h => addAll_nodup cs (addK_nodup h)
theorem upK_nodup : ∀ (m : Nat) (c : Int) {ks : List Int}, ks.Nodup → (upK m c ks).Nodup
  | 0, c, ks, h => by simpa [upK] using h
  | m + 1, c, ks, h => upK_nodup m (c + 1) (addK_nodup h)
theorem seenE_nodup (n : Nat) (e : En) : (seenE n e).Nodup := by
  unfold seenE
  have h := addAll_nodup e.body.consts (addAll_nodup e.typ.consts (ks := []) (by simp))
  split
  · exact upK_nodup _ _ h
  · exact h
theorem seenE_mem (n : Nat) (e : En) (x : Int) : x ∈ seenE n e ↔ (x ∈ e.typ.consts ∨ x ∈ e.body.consts) ∨ (3 ≤ e.kind ∧ e.base ≤ x ∧ x < n) := by
  unfold seenE
  split
  · rename_i h
    rw [upK_mem, addAll_mem, addAll_mem]
    simp only [List.not_mem_nil, or_false]
    constructor
    · rintro ((h1 | h1) | h1)
      · exact .inl (.inr h1)
      · exact .inl (.inl h1)
      · exact .inr ⟨h, by omega, by omega⟩
    · rintro ((h1 | h1) | h1)
      · exact .inl (.inr h1)
      · exact .inl (.inl h1)
      · exact .inr ⟨by omega, by omega⟩
  · rename_i h
    rw [addAll_mem, addAll_mem]
    simp only [List.not_mem_nil, or_false]
    constructor
    · rintro (h1 | h1)
      · exact .inl (.inr h1)
      · exact .inl (.inl h1)
    · rintro ((h1 | h1) | h1)
      · exact .inr h1
      · exact .inl h1
      · exact absurd h1.1 h
theorem fn1041g (l : List En) (n : Nat) (hn : n ≤ 1000) (e : En) (he : l[n]? = some e) (hok : e.Ok) (hb : 3 ≤ e.kind → 0 ≤ e.base) : Fn Tryz.prog 41 [ens l, ib n] (is (usesE n e)) := by
  refine fn_of (base := 1041000) ok1041 rfl fun σ h0 hr => ?_
  have s0 : σ.sl 0 = .c (.sl 12 160 (l.map En.cells)) := h0 0
  have s1 : σ.sl 1 = .c (.v (.int .i64 n)) := h0 1
  obtain ⟨hnl, he'⟩ := getE he
  clear h0 hr
  have hl1 := consts_len hok.typ
  have hl2 := consts_len hok.body
  unfold c1041
  simp [s0, s1]
  refine W_dregA ?_
  simp [s0, s1, hnl, he', En.cells]
  refine ⟨by simp [room], realC_n ?_⟩
  simp [-W_block]
  rw [W_block]
  refine W_loop (fun m σ => ∃ (i : Nat) (ks : List Int), i + m = 2 ∧ ks = (if i = 0 then [] else if i = 1 then addAll e.typ.consts [] else addAll e.body.consts (addAll e.typ.consts [])) ∧ σ.sl 0 = .c (.sl 12 160 (l.map En.cells)) ∧ σ.sl 1 = .c (.v (.int .i64 n)) ∧ σ.sl 5 = .c (.mp 1041011 (σ.tg 1041011)) ∧
      σ.ob 1041011 = some (.mob true (encK ks)) ∧ σ.sl 22 = .c (.cap 3 40 [e.typ.cells, e.body.cells]) ∧ σ.sl 23 = .c (.v (.int .i64 2)) ∧ σ.sl 24 = .c (.v (.int .i64 i))) 2 ⟨0, [], by simp [s0, s1, encK, cells_eq e.typ, cells_eq e.body]⟩ ?_
  clear s0 s1 σ
  rintro m σ ⟨i, ks, hm, hk, s0, s1, s5, o5, s22, s23, s24⟩
  unfold c1041b1
  match i, hm with
  | 0, hm =>
    simp at hk
    subst hk
    simp [s22, s23, s24]
    refine ECall.fn (fn60 e.typ hok.typ.1 hok.typ.2) (by simp [tm, cells_eq e.typ, toD2, toD1, toD]) (by simp) rfl fun _ => ?_
    simp [is]
    refine loop1041g e.typ.consts [] (by omega) (by simp [is]) (by simp [ib]) (by simp [ib]) (by simp [s5]) (by simp [o5]) fun σ' hs ho ht2 => ?_
    have q0 : σ'.sl 0 = .c (.sl 12 160 (l.map En.cells)) := by rw [hs 0 (by simp)]; simp [s0]
    have q1 : σ'.sl 1 = .c (.v (.int .i64 n)) := by rw [hs 1 (by simp)]; simp [s1]
    have q5 : σ'.sl 5 = .c (.mp 1041011 (σ'.tg 1041011)) := by rw [hs 5 (by simp), ht2]; simp [s5]
    have q22 : σ'.sl 22 = .c (.cap 3 40 [e.typ.cells, e.body.cells]) := by rw [hs 22 (by simp)]; simp [s22]
    have q23 : σ'.sl 23 = .c (.v (.int .i64 2)) := by rw [hs 23 (by simp)]; simp [s23]
    have q24 : σ'.sl 24 = .c (.v (.int .i64 (0 : Nat))) := by rw [hs 24 (by simp)]; simp [s24]
    have w1 : IntKind.wrap .i64 (1 : Int) = 1 := by decide
    simp [q24, w1]
    exact ⟨1, by omega, 1, by omega, by simp [q0, q1, q5, ho, q22, q23]⟩
  | 1, hm =>
    simp at hk
    subst hk
    simp [s22, s23, s24]
    refine ECall.fn (fn60 e.body hok.body.1 hok.body.2) (by simp [tm, cells_eq e.body, toD2, toD1, toD]) (by simp) rfl fun _ => ?_
    simp [is]
    refine loop1041g e.body.consts (addAll e.typ.consts []) (by omega) (by simp [is]) (by simp [ib]) (by simp [ib]) (by simp [s5]) (by simp [o5]) fun σ' hs ho ht2 => ?_
    have q0 : σ'.sl 0 = .c (.sl 12 160 (l.map En.cells)) := by rw [hs 0 (by simp)]; simp [s0]
    have q1 : σ'.sl 1 = .c (.v (.int .i64 n)) := by rw [hs 1 (by simp)]; simp [s1]
    have q5 : σ'.sl 5 = .c (.mp 1041011 (σ'.tg 1041011)) := by rw [hs 5 (by simp), ht2]; simp [s5]
    have q22 : σ'.sl 22 = .c (.cap 3 40 [e.typ.cells, e.body.cells]) := by rw [hs 22 (by simp)]; simp [s22]
    have q23 : σ'.sl 23 = .c (.v (.int .i64 2)) := by rw [hs 23 (by simp)]; simp [s23]
    have q24 : σ'.sl 24 = .c (.v (.int .i64 (1 : Nat))) := by rw [hs 24 (by simp)]; simp [s24]
    have w1 : IntKind.wrap .i64 (2 : Int) = 2 := by decide
    simp [q24, w1]
    exact ⟨0, by omega, 2, by omega, by simp [q0, q1, q5, ho, q22, q23]⟩
  | 2, hm =>
    simp at hk
    subst hk
    have hlen := addAll_len e.body.consts (addAll e.typ.consts [])
    have hlen1 := addAll_len e.typ.consts []
    simp only [List.length_nil] at hlen1
    have fin : ∀ σ', σ'.sl 5 = .c (.mp 1041011 (σ'.tg 1041011)) → σ'.ob 1041011 = some (.mob true (encK (seenE n e))) → W Tryz.prog 1041000 (.seq (.reg
       [⟨some 57, none, .mv (.t 5)⟩,
        ⟨some 58, none, .call (.f 43) [.t 57]⟩,
        ⟨some 59, none, .call (.f 42) [.t 58]⟩,
        ⟨some 4, none, .mv (.t 59)⟩]) (.ret)) σ' (onEnd [] r1041 (is (usesE n e)) []) := by
      intro σ' q5 qo
      have hsl : (seenE n e).length ≤ 1000000000 := by
        unfold seenE
        split
        · rename_i h3
          have := upK_len ((n : Int) - e.base).toNat e.base (addAll e.body.consts (addAll e.typ.consts []))
          have := hb h3
          omega
        · omega
      simp [q5]
      refine ECall.keys (k := 1041011) (one := true) (es := encK (seenE n e)) (by simp [qo]) (by simp) ?_
      simp
      refine ECall.sorted 1041010 (k := 1041011) (one := true) (es := encK (seenE n e)) (by simp [qo]) (by simp) (by omega) ?_ ?_ ?_
      · intro p hp
        obtain ⟨x, hx, rfl⟩ := List.mem_map.1 hp
        show okI x
        rcases (seenE_mem n e x).1 hx with (h | h) | h
        · exact consts_mem_ok hok.typ x h
        · exact consts_mem_ok hok.body x h
        · have := hb h.1
          exact ⟨by omega, by omega⟩
      · simpa [encK] using hsl
      · simp [r1041, is, isL, encK_keys, usesE]
    by_cases k3 : 3 ≤ e.kind
    · simp [s0, s1, s22, s23, s24, hnl, he', En.cells, s5, k3]
      refine loop1041u n hn e.base (hb k3) (addAll e.body.consts (addAll e.typ.consts [])) (by simp [s1]) (by simp) (by simp [s5]) (by simp [o5]) fun σ' q5 qo => ?_
      refine fin σ' q5 ?_
      rw [qo, seenE, if_pos k3]
    · have hse : seenE n e = addAll e.body.consts (addAll e.typ.consts []) := by rw [seenE, if_neg k3]
      simp [s0, s1, s22, s23, s24, hnl, he', En.cells, s5, k3]
      refine ECall.keys (k := 1041011) (one := true) (es := encK (seenE n e)) (by simp [o5, hse]) (by simp) ?_
      simp
      refine ECall.sorted 1041010 (k := 1041011) (one := true) (es := encK (seenE n e)) (by simp [o5, hse]) (by simp) (by omega) ?_ ?_ ?_
      · intro p hp
        obtain ⟨x, hx, rfl⟩ := List.mem_map.1 hp
        show okI x
        rcases (seenE_mem n e x).1 hx with (h | h) | h
        · exact consts_mem_ok hok.typ x h
        · exact consts_mem_ok hok.body x h
        · exact absurd h.1 k3
      · rw [hse]; simp [encK]; omega
      · simp [r1041, is, isL, encK_keys, usesE]
  | i + 3, hm => omega
end Go.Abs

namespace Go.Abs
open Go.Proofs Go.Shelf Go.RowKit Go.Lib
def clone_ren : Go.Shelf.Ren := ⟨fun | 41 => 40 | n => n, fun | 23 => 3 | 22 => 24 | 4 => 4 | n => n, fun | n => n⟩
theorem cloneA : Go.Proofs.SlLaysE0.n41 Tryz.prog clone_ren := {
  mixed := by kernel_rfl,
  f41 := ⟨Tryz.f40.name, by decide, Tryz.func40.trans (congrArg some (by kernel_rfl))⟩,
  t4 := Tryz.underlying4,
  a4 := Tryz.isAgg4,
  z4 := Tryz.sizeOf4,
  v4 := Tryz.zeroValue4,
  t22 := Tryz.underlying24,
  a22 := Tryz.isAgg24,
  z22 := Tryz.sizeOf24,
  v22 := Tryz.zeroValue24 }
section
variable {P : Program} {ρ : Ren}
set_option maxHeartbeats 2000000 in
set_option maxRecDepth 100000 in
/-- slices.Clone of a slice of no elements, wherever it lies. -/
theorem clone_zero (L : SlLaysE0.n41 P ρ) (i0 : TypeInfo) (z : Value) (size bytes : Nat) (hi : P.info? (ρ.t 23) = some i0) (hz0 : i0.zero = some z) (hz1 : i0.size = size) (hz2 : i0.bytes = bytes) (hzs : z.cells.size = size) (hsz : 0 < size)
    (z23 : ∀ w, (Go.sizeOf (ρ.t 23)).run P w = .ok size w) (a : Addr) (c : Nat) (w : World) :
    Calls P (ρ.f 41) #[.slice (some a) 0 c] w fun e w' => ∃ v', e = .returned v' ∧ w'.ownsRow w.heap.size (ρ.t 23) size v' 0 [] ∧ Below w.heap.size w w' := by
  have mixed := L.mixed; have t4 := L.t4; have a4 := L.a4; have z4 := L.z4; have v4 := L.v4; have t22 := L.t22; have a22 := L.a22; have z22 := L.z22; have v22 := L.v22
  have q22 : ∀ (w : World) (a : Option Addr) (n c n' c' : Nat), (binOp .eql (ρ.t 22) (.slice a n c) (.slice none n' c')).run P w = .ok (.bool a.isNone) w := fun w a n c n' c' => Lib.run_eql_slice_nil w _ _ a n c n' c' L.t22
  have u22 : ∀ w, Sem.run P (underlying (ρ.t 22)) w = .ok (TypeDesc.slice (ρ.t 23)) w := run_underlying t22
  obtain ⟨_, _, FG⟩ := L.f41
  go_enter FG, SlBodyN.n41_ntmps ρ
  go_wp2_with (at_builtin; refine wpList_append_own _ rfl _ _ (ρ.t 22) rfl w.heap.size (ρ.t 23) i0 z size bytes t22 hi hz0 hz1 hz2 hzs hsz _ _ _ rfl (World.ownsRow_made w #[] 0 (Nat.le_refl _) (Nat.zero_le _) (by simp)) a 0 c [] rfl (by simp) (by intro j u hj; simp at hj) (by intro u hu; cases hu) (by unfold maxLen; omega) (by omega) (by simp) ?_)
  intro v' w1 hown hgrow hnil
  go_wp2
  go_ret
  refine ⟨v', rfl, by simpa using hown, ?_⟩
  exact ((Below.refl _ w).alloc (Nat.le_refl _) _).grown hgrow (by simp) (by intro k hk; simp [Value.ownBlock] at hk; omega)
end
theorem enters40 : EntersF Tryz.prog 40 := fun args w => (enters_of Tryz.func40 (by kernel_rfl) rfl) args w
/-- Of nothing nothing is copied. -/
theorem fnClone0 : Fn Tryz.prog 40 [.c (.sl 1 8 [])] (.c (.sl 1 8 [])) := by
  refine ⟨enters40, fun g w vs hwok hargs hins => ?_⟩
  obtain ⟨v, hvs, hv⟩ := hargs.get 0 _ rfl
  have hsz : vs.size = 1 := by simpa using hargs.length.symm
  have hrd : RD g w (.sl 1 8 []) v := hv (by simp)
  have hvs' : vs = #[v] := by
    apply Array.ext
    · simpa using hsz
    · intro i h1 h2
      have : i = 0 := by simp at h2; exact h2
      subst this
      have h3 : vs[0]? = some v := by simpa using hvs
      rw [Array.getElem?_eq_getElem h1] at h3
      simp at h3
      simp [h3]
  subst hvs'
  obtain ⟨a, c, rfl⟩ : ∃ a c, v = .slice a 0 c := by
    cases hrd with
    | sl _ _ _ a c vs => exact ⟨a, c, rfl⟩
  have fin : ∀ (v' : Value) (w' : World), (∃ a' c', v' = .slice a' 0 c') → Below w.heap.size w w' → ∃ v'' g', Ending.returned v' = .returned v'' ∧ Post g w [] g' w' (.c (.sl 1 8 [])) v'' [] := by
    rintro v' w' ⟨a', c', rfl⟩ hbel
    have hK : Kp g w g w' := ⟨fun ad h => ⟨h, World.cell?_of_block (hbel.block _ (hwok _ _ h))⟩⟩
    exact ⟨_, g, rfl,
      { res := fun _ => .sl 1 8 [] a' c' (fun _ _ => undef) (Nat.zero_le _) (by simp [room]) (by simp) (by simp) (by simp)
        obs := ⟨fun k' t q h => (by cases h), fun k' k'' t t' q q' h => (by cases h)⟩
        kp := hK
        wok := fun b x h => Nat.lt_of_lt_of_le (hwok b x h) hbel.size
        os := hbel.os, tape := hbel.tape, out := hbel.output, grow := hbel.size
        frame := fun b hb _ => ⟨hbel.block b hb, fun x => Iff.rfl⟩
        loc := fun k' t q h => (by cases h)
        box := fun k' t _ h => by obtain ⟨q, h⟩ := h; cases h }⟩
  cases a with
  | none =>
    refine (AnyE.slices_Clone_nil cloneA 0 c w).mono ?_
    rintro e w' ⟨rfl, rfl⟩
    exact fin _ _ ⟨none, 0, rfl⟩ (Below.refl _ _)
  | some a =>
    obtain ⟨i0, hi, hz0, hz1, hz2⟩ := info_parts (show (Tryz.prog.info? 3).map (fun i => (i.zero, i.size, i.bytes)) = some (some (Value.int .i64 0), 1, 8) by kernel_rfl)
    refine (clone_zero cloneA i0 (.int .i64 0) 1 8 hi hz0 hz1 hz2 rfl (by decide) Tryz.sizeOf3 a c w).mono ?_
    rintro e w' ⟨v', rfl, hown, hbel⟩
    refine fin _ _ ?_ hbel
    rcases hown.2 with h | ⟨gb, cap, cur, h1, h2, h3, h4, h5, h6, h7⟩
    · exact ⟨none, 0, h.1⟩
    · exact ⟨_, _, h1⟩
end Go.Abs

namespace Go.Abs
open Go.Proofs
/-! ### right rows -/
theorem within_consts (t : T) : t.formed = true → ∀ a b : Int, t.within a b = true → ∀ n, t.hasC n = true → 0 ≤ n ∧ n < b := by
  induction t using T.ind with
  | h k m ts ih =>
    intro hf a b hw n hn
    simp only [T.formed, Bool.and_eq_true, Bool.not_eq_true'] at hf
    obtain ⟨hf1, hf2⟩ := hf
    rw [formedL_all] at hf2
    simp only [T.hasC, Bool.or_eq_true, Bool.and_eq_true, decide_eq_true_eq] at hn
    rcases hn with ⟨rfl, rfl⟩ | hn
    · have h1 : m < b := by simpa [T.within] using hw
      have h2 : 0 ≤ m := by
        simp only [badHead, Bool.or_eq_false_iff, decide_eq_false_iff_not] at hf1
        omega
      exact ⟨h2, h1⟩
    · rw [hasCL_any] at hn
      obtain ⟨u, hu, hun⟩ := List.any_eq_true.1 hn
      have hkids : ∀ (us : List T) (i : Int), T.withinL k a b i us = true → ∀ u, u ∈ us → ∃ a', u.within a' b = true := by
        intro us
        induction us with
        | nil => intro i _ u hu; cases hu
        | cons v us ihu =>
          intro i h u hu
          simp only [T.withinL, Bool.and_eq_true] at h
          rcases List.mem_cons.1 hu with rfl | hu
          · exact ⟨_, h.1⟩
          · exact ihu _ h.2 u hu
      have hnil : k = 1 ∨ k = 2 ∨ k = 3 → ts = [] := fun hk => by
        simp only [badHead, Bool.or_eq_false_iff, decide_eq_false_iff_not, Bool.not_eq_false'] at hf1
        have h0 : kidsOf k = 0 := by rcases hk with rfl | rfl | rfl <;> rfl
        have := hf1.1.1.1.2
        rw [h0] at this
        have h1 : (ts.length : Int) = 0 := by simpa using this
        exact List.length_eq_zero_iff.1 (by omega)
      by_cases hk : k = 1 ∨ k = 2 ∨ k = 3
      · rw [hnil hk] at hu; cases hu
      · have h1 : k ≠ 1 := fun h => hk (.inl h)
        have h2 : k ≠ 2 := fun h => hk (.inr (.inl h))
        have h3 : k ≠ 3 := fun h => hk (.inr (.inr h))
        rw [T.within, if_neg h1, if_neg h2, if_neg h3] at hw
        obtain ⟨a', ha'⟩ := hkids ts 0 hw u hu
        exact ih u hu (List.all_eq_true.1 hf2 u hu) a' b ha' n hun
theorem scope_consts {t : T} {a b : Int} (h : t.scope a b = true) : ∀ n, n ∈ t.consts → 0 ≤ n ∧ n < b := by
  intro n hn
  rw [(consts_facts t).2] at hn
  simp only [T.scope, Bool.and_eq_true, decide_eq_true_eq] at h
  have hf : t.formed = true := by
    have := h.1.2
    unfold T.check at this
    split at this
    · cases this
    · split at this
      · cases this
      · split at this
        · assumption
        · cases this
  exact within_consts t hf _ _ h.2 n hn
theorem none_consts {t : T} (h : t.none = true) : t.consts = [] := by
  obtain ⟨k, n, ts⟩ := t
  unfold T.none at h
  simp only [Bool.and_eq_true] at h
  have h1 : k = 0 := of_decide_eq_true h.1.1
  have h2 : ts = [] := List.isEmpty_iff.1 h.2
  subst h1; subst h2
  simp [T.consts, T.cons, T.consL, sortI]
structure RowOK (l : List En) : Prop where
  len : l.length ≤ 200
  ok : ∀ e, e ∈ l → e.Ok
  right : ∀ (i : Nat) e, l[i]? = some e → e.right i = true
theorem chkE_right : ∀ {l : List En} {i : Nat} {ms : BM}, chkE l i ms = 0 → ∀ (j : Nat) e, l[j]? = some e → e.right ((i + j : Nat) : Int) = true
  | [], _, _, _, j, e, h => by simp at h
  | e :: l, i, ms, h, j, e', hj => by
    rw [chkE] at h
    by_cases hr : e.right i = false
    · rw [if_pos hr] at h; cases h
    · rw [if_neg hr] at h
      cases j with
      | zero => simp at hj; subst hj; simpa using hr
      | succ j =>
        have hj' : l[j]? = some e' := by simpa using hj
        have e1 : i + (j + 1) = (i + 1) + j := by omega
        rw [e1]
        by_cases h3 : e.kind < 3
        · rw [if_pos h3] at h; exact chkE_right h j e' hj'
        · rw [if_neg h3] at h
          split at h
          · split at h
            · exact chkE_right h j e' hj'
            · cases h
          · split at h
            · exact chkE_right h j e' hj'
            · cases h
theorem chkR_ok {l : List En} (hO : ∀ e, e ∈ l → e.Ok) (h : chkR l = 0) : RowOK l := by
  unfold chkR at h
  split at h
  · cases h
  · exact ⟨by omega, hO, fun i e he => by have := chkE_right h i e he; simpa using this⟩
theorem right_base {e : En} {i : Int} (h : e.right i = true) (h3 : 3 ≤ e.kind) : 0 ≤ e.base := by
  unfold En.right at h
  rw [Bool.and_eq_true, if_neg (by omega), if_neg (by omega)] at h
  have := h.2
  split at this
  · simp only [Bool.and_eq_true, decide_eq_true_eq] at this
    exact this.1.2
  · cases this
theorem uses_range {e : En} {i : Nat} (h : e.right i = true) : ∀ x, x ∈ usesE i e → 0 ≤ x ∧ x < i := by
  intro x hx
  rw [usesE, sortI_mem, seenE_mem] at hx
  have h0 := h
  unfold En.right at h
  rw [Bool.and_eq_true] at h
  rcases hx with (hx | hx) | ⟨h3, h4, h5⟩
  · exact scope_consts h.1 x hx
  · have h2 := h.2
    split at h2
    · simp only [Bool.and_eq_true] at h2
      rw [none_consts h2.2] at hx; cases hx
    · split at h2
      · simp only [Bool.and_eq_true] at h2
        exact scope_consts h2.2 x hx
      · split at h2
        · simp only [Bool.and_eq_true] at h2
          rw [none_consts h2.1.1] at hx; cases hx
        · cases h2
  · have := right_base h0 h3
    omega
theorem usesE_nodup (i : Nat) (e : En) : (usesE i e).Nodup := by
  rw [usesE]
  exact ((List.mergeSort_perm _ _).nodup_iff).2 (seenE_nodup i e)
/-! ### Uses -/
def usesR (l : List En) (n : Int) : List Int × Int :=
  if chkR l ≠ 0 then ([], chkR l) else if n < 0 ∨ (l.length : Int) ≤ n then ([], 14) else
    match l[n.toNat]? with | some e => (usesE n.toNat e, 0) | none => ([], 14)
theorem fn1021 (l : List En) (hO : ∀ e, e ∈ l → e.Ok) (n : Int) : Fn Tryz.prog 21 [ens l, ib n] (.tup [is (usesR l n).1, ib (usesR l n).2]) := by
  refine fn_of (base := 1021000) ok1021 rfl fun σ h0 hr => ?_
  have s0 : σ.sl 0 = .c (.sl 12 160 (l.map En.cells)) := h0 0
  have s1 : σ.sl 1 = .c (.v (.int .i64 n)) := h0 1
  clear h0 hr
  unfold c1021
  simp [s0, s1]
  refine ECall.fn (fn1027g l hO) (by simp [ens]) (by simp) rfl fun _ => ?_
  by_cases hc : chkR l = 0
  · have hR := chkR_ok hO hc
    by_cases c1 : n < 0
    · simp [ib, hc, s0, s1, c1, r1021, usesR, is]
    · by_cases c2 : (l.length : Int) ≤ n
      · simp [ib, hc, s0, s1, c1, c2, r1021, usesR, is]
      · obtain ⟨k, rfl⟩ := Int.eq_ofNat_of_zero_le (a := n) (by omega)
        obtain ⟨e, he⟩ := at_of (ts := l) (i := k) (by omega)
        have hcall := fn1041g l k (by have := hR.len; omega) e he (hO e (List.mem_of_getElem? he)) (right_base (hR.right k e he))
        have hu : usesR l k = (usesE k e, 0) := by
          unfold usesR
          rw [if_neg (by simp [hc]), if_neg (by omega)]
          simp [he]
        rw [hu]
        simp [ib, hc, s0, s1, c1, c2]
        refine ECall.fn hcall (by simp [ens, ib]) (by simp) rfl fun _ => ?_
        simp [r1021, is]
  · simp [ib, hc, s0, s1, r1021, usesR, is]
end Go.Abs

namespace Go.Abs
open Go.Proofs
/-! ### what is needed -/
def usesAt (l : List En) (y : Int) : List Int := match l[y.toNat]? with | some e => usesE y.toNat e | none => []
inductive Rch (l : List En) (xs : List Int) : Int → Prop where
  | base {x : Int} (h : x ∈ xs) : Rch l xs x
  | step {x y : Int} (h : Rch l xs y) (h' : x ∈ usesAt l y) : Rch l xs x
open Classical in
noncomputable def needsL (l : List En) (xs : List Int) : List Int := (nums l.length).filter fun x => decide (Rch l xs x)
theorem nums_srt (n : Nat) : Srt (nums n) := by
  unfold nums Srt
  rw [List.pairwise_map]
  exact List.Pairwise.imp (fun h => by omega) List.pairwise_lt_range
theorem needsL_srt (l : List En) (xs : List Int) : Srt (needsL l xs) := (nums_srt _).filter _
theorem needsL_mem {l : List En} {xs : List Int} {x : Int} : x ∈ needsL l xs ↔ (0 ≤ x ∧ x < l.length) ∧ Rch l xs x := by
  simp [needsL, mem_nums]
noncomputable def needsR (l : List En) (xs : List Int) : List Int × Int :=
  if chkR l ≠ 0 then ([], chkR l) else if xs.any (outE l.length) then ([], 14) else (needsL l xs, 0)
def ebx (l : List En) : Obj := .box 37 [.sl 12 160 (l.map En.cells)]
theorem sp1039g (tn : Nat) (l : List En) (x : Int) : Spec Tryz.prog 39 [ib x, .c (.ref 1017002 tn 0)] [(1017002, tn, ebx l)] (bb (outE l.length x)) [(1017002, tn, ebx l)] := by
  refine spec_one (base := 1039000) ok1039 rfl fun σ h0 oK gK hr => ?_
  have s0 : σ.sl 0 = .c (.v (.int .i64 x)) := h0 0
  have s1 : σ.sl 1 = .c (.ref 1017002 tn 0) := h0 1
  clear h0 hr
  unfold c1039
  by_cases c1 : x < 0
  · simp [s0, s1, oK, gK, ebx, c1]
    refine EndU_one ?_ ?_ ?_ ?_ <;> simp [r1039, outE, bb, c1, oK, gK, ebx]
  · simp [s0, s1, oK, gK, ebx, c1]
    refine EndU_one ?_ ?_ ?_ ?_ <;> simp [r1039, outE, bb, c1, oK, gK, ebx]
theorem sp1060g (tn : Nat) (es : List En) (l : List Int) : Spec Tryz.prog 60 [is l, .c (.clo 39 [] [(1017002, tn)])] [(1017002, tn, ebx es)] (ib (fstOut es.length l 0)) [(1017002, tn, ebx es)] := by
  refine spec_one (base := 1060000) ok1060 rfl fun σ h0 oK gK hr => ?_
  have hl := real_is (hr (is l) (by simp))
  have s0 : σ.sl 0 = .c (.sl 1 8 (ic l)) := h0 0
  have s1 : σ.sl 1 = .c (.clo 39 [] [(1017002, tn)]) := h0 1
  clear h0 hr
  unfold c1060
  simp [s0, s1, -W_block]
  rw [W_block]
  refine W_loop (fun m σ => ∃ i : Nat, i + m = l.length ∧ fstOut es.length (l.drop i) i = fstOut es.length l 0 ∧ σ.sl 0 = .c (.sl 1 8 (ic l)) ∧ σ.sl 1 = .c (.clo 39 [] [(1017002, tn)]) ∧ σ.sl 7 = .c (.v (.int .i64 l.length)) ∧ σ.sl 8 = .c (.v (.int .i64 i)) ∧ σ.ob 1017002 = some (ebx es) ∧ σ.tg 1017002 = tn) l.length ⟨0, by simp [s0, s1, oK, gK]⟩ ?_
  clear s0 s1 oK gK σ
  rintro m σ ⟨i, hm, hp, s0, s1, s7, s8, oK, gK⟩
  unfold c1060b0
  by_cases hi : i < l.length
  · have w1 := wrap_succ (i := i) (by omega)
    obtain ⟨p, hp1⟩ := at_of hi
    obtain ⟨_, hp2⟩ := getE hp1
    rw [drop_at hp1, fstOut] at hp
    simp [s0, s1, s7, s8, oK, gK, hi, hp2]
    refine ECall.ro (args := [ib p]) [(1017002, tn, ebx es)] (by simpa [refs] using sp1039g tn es p) (by simp [toD2, toD1, ib, toD]) (by simp) rfl (Ro.one (by simp [oK]) (by simp [gK]) rfl) fun _ => ?_
    cases hb : outE es.length p with
    | true =>
      rw [hb] at hp
      simp [bb]
      refine EndU_one ?_ ?_ ?_ ?_ <;> simp [r1060, oK, gK, ib, ← hp]
    | false =>
      rw [hb] at hp
      simp [bb, w1, s0, s1, s7, s8, oK, gK]
      exact ⟨m - 1, by omega, i + 1, by omega, by simpa using hp, rfl⟩
  · have : i = l.length := by omega
    subst this
    simp [fstOut] at hp
    simp [s0, s1, s7, s8, oK, gK]
    refine EndU_one ?_ ?_ ?_ ?_ <;> simp [r1060, oK, gK, ib, ← hp]
theorem sp1038g (tn : Nat) (es : List En) (l : List Int) : Spec Tryz.prog 38 [is l, .c (.clo 39 [] [(1017002, tn)])] [(1017002, tn, ebx es)] (bb (l.any (outE es.length))) [(1017002, tn, ebx es)] := by
  refine spec_one (base := 1038000) ok1038 rfl fun σ h0 oK gK hr => ?_
  have s0 : σ.sl 0 = .c (.sl 1 8 (ic l)) := h0 0
  have s1 : σ.sl 1 = .c (.clo 39 [] [(1017002, tn)]) := h0 1
  clear h0 hr
  unfold c1038
  simp [s0, s1]
  refine ECall.ro (rs := []) (args := [is l, .c (.clo 39 [] [(1017002, tn)])]) [(1017002, tn, ebx es)] (by simpa [refs] using sp1060g tn es l) (by simp [toD2, toD1, is, toD, ic]) (by simp) rfl (Ro.one (by simp [oK]) (by simp [gK]) rfl) fun _ => ?_
  simp [ib]
  refine EndU_one ?_ ?_ ?_ ?_ <;> simp [r1038, oK, gK, bb, ← fstOut_any es.length l 0]
theorem mget_encK (ks : List Int) (n : Int) : mgetL (encK ks) n = if n ∈ ks then some [.v (.bool true)] else none := by
  induction ks with
  | nil => rfl
  | cons k ks ih =>
    simp only [mgetL, encK, List.map_cons, List.find?_cons] at ih ⊢
    by_cases h : k = n
    · subst h; simp
    · have h1 : (k == n) = false := by simpa using h
      simp only [h1]
      rw [ih]
      have : (n ∈ k :: ks) ↔ n ∈ ks := by simp [Ne.symm h]
      simp only [this]
/-- What is to be done, what was seen. -/
structure CS (l : List En) (xs todo seen : List Int) : Prop where
  nodup : seen.Nodup
  range : ∀ x, x ∈ todo ∨ x ∈ seen → 0 ≤ x ∧ x < l.length
  rch : ∀ x, x ∈ todo ∨ x ∈ seen → Rch l xs x
  all : ∀ x, x ∈ xs → x ∈ todo ∨ x ∈ seen
  clo : ∀ y, y ∈ seen → ∀ x, x ∈ usesAt l y → x ∈ todo ∨ x ∈ seen
theorem CS.skip {l : List En} {xs ini seen : List Int} {n : Int} (h : CS l xs (ini ++ [n]) seen) (hn : n ∈ seen) : CS l xs ini seen := by
  have key : ∀ x, x ∈ ini ++ [n] ∨ x ∈ seen → x ∈ ini ∨ x ∈ seen := fun x hx => by
    rcases hx with hx | hx
    · rcases List.mem_append.1 hx with hx | hx
      · exact .inl hx
      · simp at hx; subst hx; exact .inr hn
    · exact .inr hx
  have sub : ∀ x, x ∈ ini ∨ x ∈ seen → x ∈ ini ++ [n] ∨ x ∈ seen := fun x hx => by
    rcases hx with hx | hx
    · exact .inl (by simp [hx])
    · exact .inr hx
  exact ⟨h.nodup, fun x hx => h.range x (sub x hx), fun x hx => h.rch x (sub x hx), fun x hx => key x (h.all x hx), fun y hy x hx => key x (h.clo y hy x hx)⟩
theorem CS.take {l : List En} (hR : RowOK l) {xs ini seen : List Int} {n : Int} (h : CS l xs (ini ++ [n]) seen) (hn : n ∉ seen) : CS l xs (ini ++ usesAt l n) (addK seen n) ∧ (addK seen n).length = seen.length + 1 ∧ (usesAt l n).length ≤ 200 := by
  have hnr := h.range n (.inl (by simp))
  obtain ⟨e, he⟩ := at_of (ts := l) (i := n.toNat) (by omega)
  have hu : usesAt l n = usesE n.toNat e := by simp [usesAt, he]
  have hur := uses_range (hR.right n.toNat e he)
  refine ⟨⟨addK_nodup h.nodup, fun x hx => ?_, fun x hx => ?_, fun x hx => ?_, fun y hy x hx => ?_⟩, ?_, ?_⟩
  · rcases hx with hx | hx
    · rcases List.mem_append.1 hx with hx | hx
      · exact h.range x (.inl (by simp [hx]))
      · rw [hu] at hx; have := hur x hx; omega
    · rcases addK_mem.1 hx with hx | rfl
      · exact h.range x (.inr hx)
      · exact hnr
  · rcases hx with hx | hx
    · rcases List.mem_append.1 hx with hx | hx
      · exact h.rch x (.inl (by simp [hx]))
      · exact .step (h.rch n (.inl (by simp))) hx
    · rcases addK_mem.1 hx with hx | rfl
      · exact h.rch x (.inr hx)
      · exact h.rch x (.inl (by simp))
  · rcases h.all x hx with hx | hx
    · rcases List.mem_append.1 hx with hx | hx
      · exact .inl (by simp [hx])
      · simp at hx; subst hx; exact .inr (addK_mem.2 (.inr rfl))
    · exact .inr (addK_mem.2 (.inl hx))
  · rcases addK_mem.1 hy with hy | rfl
    · rcases h.clo y hy x hx with hx | hx
      · rcases List.mem_append.1 hx with hx | hx
        · exact .inl (by simp [hx])
        · simp at hx; subst hx; exact .inr (addK_mem.2 (.inr rfl))
      · exact .inr (addK_mem.2 (.inl hx))
    · exact .inl (by simp [hx])
  · simp [addK, hn]
  · rw [hu]
    have := nodup_le (n := n.toNat) (usesE_nodup n.toNat e) fun x hx => hur x hx
    have := hR.len
    omega
theorem CS.done {l : List En} {xs seen : List Int} (h : CS l xs [] seen) : sortI seen = needsL l xs := by
  have key : ∀ x, Rch l xs x → x ∈ seen := fun x hx => by
    induction hx with
    | base hx => rcases h.all _ hx with hx | hx
                 · cases hx
                 · exact hx
    | step _ h' ih => rcases h.clo _ ih _ h' with hx | hx
                      · cases hx
                      · exact hx
  refine srt_ext (sortI_srt h.nodup) (needsL_srt l xs) fun n => ?_
  rw [sortI_mem, needsL_mem]
  constructor
  · intro hn
    exact ⟨h.range n (.inr hn), h.rch n (.inr hn)⟩
  · rintro ⟨_, hn⟩
    exact key n hn
structure NSg (l : List En) (K : Nat) (todo seen : List Int) (σ : St) : Prop where
  s2 : σ.sl 2 = .c (.ref 1017002 (σ.tg 1017002) 0)
  o2 : σ.ob 1017002 = some (ebx l)
  s7 : σ.sl 7 = .c (.mp 1017020 (σ.tg 1017020))
  o7 : σ.ob 1017020 = some (.mob true (encK seen))
  s8 : σ.sl 8 = .c (.own K (σ.tg K))
  o8 : σ.ob K = some (hrow todo)
theorem snoc_of {l : List Int} (h : 0 < l.length) : ∃ ini n, l = ini ++ [n] := ⟨_, _, last_of h⟩
def NJ (l : List En) (xs : List Int) (m : Nat) (σ : St) : Prop := ∃ K todo seen, (K = 1017300 ∨ K = 1017036 ∨ K = 1017046) ∧ CS l xs todo seen ∧ seen.length ≤ l.length ∧ (l.length - seen.length) * 201 + todo.length ≤ m ∧ m ≤ 2000000 ∧ NSg l K todo seen σ
theorem loop1017 {σ : St} {Q : SEx → St → Prop} (l : List En) (hR : RowOK l) (xs todo : List Int) (hx : xs.length ≤ 1000000) (hC : CS l xs todo []) (ht : todo.length ≤ 1000000) (H : NSg l 1017300 todo [] σ)
    (hQ : ∀ σ' seen, CS l xs [] seen → σ'.sl 7 = .c (.mp 1017020 (σ'.tg 1017020)) → σ'.ob 1017020 = some (.mob true (encK seen)) → Q .normal σ') : W Tryz.prog 1017000 (.loop c1017b0) σ (onBlock 1 Q) := by
  refine W_loop (NJ l xs) (l.length * 201 + todo.length) ⟨1017300, todo, [], .inl rfl, hC, by simp, by simp, by have := hR.len; omega, H⟩ ?_
  clear hC ht H σ
  rintro m σ ⟨K, todo, seen, hK, hC, hsl, hm, hm2, s2, o2, s7, o7, s8, o8⟩
  unfold c1017b0
  by_cases h0 : 0 < todo.length
  · obtain ⟨ini, n, rfl⟩ := snoc_of h0
    have hil : ini.length ≤ 2000000 := by simp at hm; omega
    have w1 : IntKind.wrap .i64 ((ini.length : Int) + 1 - 1) = (ini.length : Int) := by rw [wrap_id (by omega) (by omega)]; omega
    have w1' : IntKind.wrap .i64 (ini.length : Int) = (ini.length : Int) := wrap_id (by omega) (by omega)
    have hat : (ic (ini ++ [n]))[ini.length]? = some [.v (.int .i64 n)] := by rw [← ic_append, List.getElem?_append_right (by simp)]; simp [ic]
    have htk := ic_take ini n
    have hmg := mget_encK seen n
    have hnr := hC.range n (.inl (by simp))
    obtain ⟨e, he⟩ := at_of (ts := l) (i := n.toNat) (by omega)
    have hcall := fn1041g l n.toNat (by have := hR.len; omega) e he (hR.ok e (List.mem_of_getElem? he)) (right_base (hR.right n.toNat e he))
    have hu : usesAt l n = usesE n.toNat e := by simp [usesAt, he]
    have hnn : ((n.toNat : Nat) : Int) = n := by omega
    rw [hnn, ← hu] at hcall
    by_cases hn : n ∈ seen
    · rw [if_pos hn] at hmg
      have hC' := hC.skip hn
      rcases hK with rfl | rfl | rfl <;>
      · simp [s2, o2, s7, o7, s8, o8, hrow, w1, w1', hat, htk, hmg, mres, mval]
        simp at hm
        exact ⟨by omega, ⟨by omega, by simp [room]; omega⟩, m - 1, by omega, 1017036, ini, seen, by simp, hC', hsl, by omega, by omega, ⟨by simp [s2], by simp [o2], by simp [s7], by simp [o7], by simp, by simp [hrow, htk]⟩⟩
    · rw [if_neg hn] at hmg
      obtain ⟨hC', hl1, hl2⟩ := hC.take hR hn
      have hset := mset_encK seen n
      have hsl' : (addK seen n).length ≤ l.length := nodup_le hC'.nodup fun x hx => hC'.range x (.inr hx)
      generalize usesAt l n = us at *
      cases us with
      | nil =>
        rcases hK with rfl | rfl | rfl <;>
        · simp [s2, o2, s7, o7, s8, o8, hrow, w1, w1', hat, htk, hmg, mres, mval, hset, ebx]
          refine ⟨by omega, ⟨by omega, by simp [room]; omega⟩, ?_⟩
          refine ECall.fn hcall (by simp [ens, ib]) (by simp) rfl fun hx2 => ?_
          clear hx2
          simp [is]
          simp at hm
          exact ⟨m - 1, by omega, 1017036, ini, addK seen n, by simp, by simpa using hC', hsl', by omega, by omega, ⟨by simp [s2], by simp [o2, ebx], by simp [s7], by simp, by simp, by simp [hrow, htk]⟩⟩
      | cons u us =>
        rcases hK with rfl | rfl | rfl <;>
        · simp [s2, o2, s7, o7, s8, o8, hrow, w1, w1', hat, htk, hmg, mres, mval, hset, ebx]
          refine ⟨by omega, ⟨by omega, by simp [room]; omega⟩, ?_⟩
          refine ECall.fn hcall (by simp [ens, ib]) (by simp) rfl fun hx2 => ?_
          clear hx2
          simp at hm hl2
          simp [is]
          refine ⟨by simp [room]; omega, ?_⟩
          exact ⟨m - 1, by omega, 1017046, ini ++ u :: us, addK seen n, by simp, hC', hsl', by simp; omega, by omega, ⟨by simp [s2], by simp [o2, ebx], by simp [s7], by simp, by simp, by simp [hrow, htk, ic]⟩⟩
  · have : todo = [] := List.length_eq_zero_iff.1 (by omega)
    subst this
    rcases hK with rfl | rfl | rfl <;>
    · simp [s8, o8, hrow]
      exact hQ _ seen hC (by simp [s7]) (by simp [o7])
theorem fn1017g (l : List En) (hO : ∀ e, e ∈ l → e.Ok) (xs : List Int) (hx : xs.length ≤ 1000000) : Fn Tryz.prog 17 [ens l, is xs] (.tup [is (needsR l xs).1, ib (needsR l xs).2]) := by
  refine fn_of (base := 1017000) ok1017 rfl fun σ h0 hr => ?_
  have s0 : σ.sl 0 = .c (.sl 12 160 (l.map En.cells)) := h0 0
  have s1 : σ.sl 1 = .c (.sl 1 8 (ic xs)) := h0 1
  clear h0 hr
  unfold c1017
  simp [s0, s1]
  refine ECall.fn (fn1027g l hO) (by simp [ens]) (by simp) rfl fun hx2 => ?_
  clear hx2
  by_cases hc : chkR l = 0
  · have hR := chkR_ok hO hc
    simp [hc, ib, s1]
    refine ECall.ro (rs := []) (args := [is xs, .c (.clo 39 [] [(1017002, σ.tg 1017002 + 1)])]) [(1017002, σ.tg 1017002 + 1, ebx l)] (by simpa [refs] using sp1038g (σ.tg 1017002 + 1) l xs) (by simp [toD2, toD1, is, toD, ic]) (by simp) rfl (Ro.one (by simp [ebx]) (by simp) rfl) fun hx2 => ?_
    clear hx2
    cases ha : xs.any (outE l.length) with
    | true =>
      have hn : needsR l xs = ([], 14) := by rw [needsR, if_neg (by simp [hc]), if_pos ha]
      rw [hn]
      simp [bb, r1017, is]
    | false =>
      have hn : needsR l xs = (needsL l xs, 0) := by rw [needsR, if_neg (by simp [hc]), if_neg (by simp [ha])]
      rw [hn]
      have hrg : ∀ x, x ∈ xs → 0 ≤ x ∧ x < l.length := fun x hx => by
        have := List.any_eq_false.1 ha x hx
        simp [outE] at this
        omega
      have hCS : CS l xs xs [] := ⟨by simp, fun x hx => hrg x (by simpa using hx), fun x hx => .base (by simpa using hx), fun x hx => .inl hx, fun y hy => by cases hy⟩
      have fin : ∀ σ' seen, CS l xs [] seen → σ'.sl 7 = .c (.mp 1017020 (σ'.tg 1017020)) → σ'.ob 1017020 = some (.mob true (encK seen)) → W Tryz.prog 1017000 (.seq (.reg
       [⟨some 47, none, .mv (.t 7)⟩,
        ⟨some 48, none, .call (.f 43) [.t 47]⟩,
        ⟨some 49, none, .call (.f 42) [.t 48]⟩,
        ⟨some 4, none, .mv (.t 49)⟩,
        ⟨some 5, none, .mv (.k (.int .i64 0))⟩]) (.ret)) σ' (onEnd [] r1017 (.tup [is (needsL l xs), ib 0]) []) := by
        intro σ' seen hC q7 o7
        have hsl : seen.length ≤ l.length := nodup_le hC.nodup fun x hx => hC.range x (.inr hx)
        have hll := hR.len
        have hdone := hC.done
        simp [q7]
        refine ECall.keys (k := 1017020) (one := true) (es := encK seen) (by simp [o7]) (by simp) ?_
        simp
        refine ECall.sorted 1017301 (k := 1017020) (one := true) (es := encK seen) (by simp [o7]) (by simp) (by omega) ?_ ?_ ?_
        · intro p hp
          obtain ⟨x, hx, rfl⟩ := List.mem_map.1 hp
          have := hC.range x (.inr hx)
          exact ⟨by omega, by omega⟩
        · simp [encK]; omega
        · simp [r1017, is, isL, encK_keys, hdone, ib]
      cases xs with
      | nil =>
        simp [bb, s1]
        refine ECall.fn fnClone0 (by simp [ic]) (by simp) rfl fun hx2 => ?_
        clear hx2
        simp [-W_block]
        rw [W_block]
        refine W_loop (fun m σ => σ.sl 8 = .c (.sl 1 8 []) ∧ σ.sl 7 = .c (.mp 1017020 (σ.tg 1017020)) ∧ σ.ob 1017020 = some (.mob true (encK []))) 1 ?_ ?_
        · exact ⟨by simp, by simp, by simp [encK]⟩
        clear s0 s1 σ
        rintro m σ ⟨s8, s7, o7⟩
        unfold c1017b0
        have := fin (((σ.set 23 (.c (.sl 1 8 []))).set 24 (.c (.v (.int .i64 0)))).set 25 (.c (.v (.bool false)))) [] hCS (by simp [s7]) (by simp [o7])
        simp [s8] at this ⊢
        exact this
      | cons x r =>
        simp [bb, s1]
        refine ECall.new 1017300 (new1040 x r) rfl rfl (by simp [toD2, toD1, is, toD, ic]) (by simp) fun hx => ?_
        clear hx
        simp
        refine loop1017 l hR (x :: r) (x :: r) hx hCS hx ⟨by simp, by simp [ebx], by simp, by simp [encK], by simp, by simp⟩ fun σ' seen hC q7 o7 => ?_
        exact fin σ' seen hC q7 o7
  · have hn : needsR l xs = ([], chkR l) := by rw [needsR, if_pos hc]
    rw [hn]
    simp [hc, ib, r1017, is]
end Go.Abs

namespace Go.Abs
open Go.Proofs
/-! ### what is too heavy to be played -/
def hvA (a : A) : Bool := heavy [a.typ] || heavy a.dom || heavy a.idx
def hvAs : List A → Bool
  | [] => false
  | a :: l => hvA a || hvAs l
def heavyA (l : List A) : Bool := decide (20 < l.length) || hvAs l
theorem fn1059 (l : List A) : Fn Tryz.prog 59 [ams l] (bb (heavyA l)) := by
  refine fn_of (base := 1059000) ok1059 rfl fun σ h0 hr => ?_
  have s0 : σ.sl 0 = .c (.sl 7 104 (l.map A.cells)) := h0 0
  clear h0 hr
  unfold c1059
  by_cases c1 : 20 < l.length
  · have c1' : (20 : Int) < l.length := by omega
    simp [s0, c1, c1', r1059, bb, heavyA]
  · have c1' : ¬ (20 : Int) < l.length := by omega
    have hd : heavyA l = hvAs l := by simp [heavyA, c1]
    rw [hd]
    simp [s0, c1, c1', -W_block]
    rw [W_block]
    refine W_loop (fun m σ => ∃ i : Nat, i + m = l.length ∧ hvAs (l.drop i) = hvAs l ∧ σ.sl 0 = .c (.sl 7 104 (l.map A.cells)) ∧ σ.sl 3 = .c (.v (.int .i64 i))) l.length ?_ ?_
    · exact ⟨0, by simp, by simp, by simp [s0], by simp⟩
    clear s0 σ
    rintro m σ ⟨i, hm, hp, s0, s3⟩
    unfold c1059b0
    by_cases hi : i < l.length
    · have w1 := wrap_succ (i := i) (by omega)
      obtain ⟨a, ha⟩ := at_of hi
      obtain ⟨_, ha2⟩ := getE ha
      rw [drop_at ha, hvAs] at hp
      have f1 := fn17 [a.typ]
      have f2 := fn17 a.dom
      have f3 := fn17 a.idx
      have hv : hvA a = (heavy [a.typ] || heavy a.dom || heavy a.idx) := rfl
      generalize heavy [a.typ] = z1 at *
      generalize heavy a.dom = z2 at *
      generalize heavy a.idx = z3 at *
      rw [hv] at hp
      simp [s0, s3, hi, ha2, A.cells]
      refine ⟨by simp [room], ECall.fn f1 (by simp [tms, cells_eq a.typ]) (by simp) rfl fun _ => ?_⟩
      simp [bb, s0, s3, hi, ha2, A.cells]
      refine GCall.fn (fun _ => f2) (by simp [tms]) (by simp) rfl fun _ => ?_
      cases z1 with
      | true =>
        simp at hp
        simp [bb, s0, s3, hi, ha2, A.cells]
        refine GCall.fn (fun _ => f3) (by simp [tms]) (by simp) rfl fun _ => ?_
        simp [bb, r1059, hp]
      | false =>
        cases z2 with
        | true =>
          simp at hp
          simp [bb, s0, s3, hi, ha2, A.cells]
          refine GCall.fn (fun _ => f3) (by simp [tms]) (by simp) rfl fun _ => ?_
          simp [bb, r1059, hp]
        | false =>
          simp [bb, s0, s3, hi, ha2, A.cells]
          refine GCall.fn (fun _ => f3) (by simp [tms]) (by simp) rfl fun _ => ?_
          cases z3 with
          | true =>
            simp at hp
            simp [bb, r1059, hp]
          | false =>
            simp [bb, s0, s3, w1]
            exact ⟨m - 1, by omega, i + 1, by omega, by simpa using hp, rfl⟩
    · have : i = l.length := by omega
      subst this
      simp [hvAs] at hp
      simp [s0, s3, r1059, bb, hp]
def hvS (s : S) : Bool := heavyA s.idx || heavy [s.decType]
def hvSs : List S → Bool
  | [] => false
  | s :: l => hvS s || hvSs l
def hvK (c : K) : Bool := heavyA c.args || heavy c.idx || heavy [c.dec]
def hvKs : List K → Bool
  | [] => false
  | c :: l => hvK c || hvKs l
def heavyB (b : B) : Bool := decide (10 < b.sorts.length) || decide (20 < b.cons.length) || hvSs b.sorts || hvKs b.cons
theorem loop1036a {σ : St} {Q : SEx → St → Prop} (b : B) (hl : b.sorts.length ≤ 10) (s1 : σ.sl 1 = .c (.ref 1036001 (σ.tg 1036001) 0)) (o1 : σ.ob 1036001 = some (.box 68 b.cells)) (s3 : σ.sl 3 = .c (.v (.int .i64 (0 : Nat))))
    (hR : ∀ σ', hvSs b.sorts = true → σ'.sl 2 = bb true → Q .ret σ') (hQ : ∀ σ', hvSs b.sorts = false → σ'.sl 1 = .c (.ref 1036001 (σ'.tg 1036001) 0) → σ'.ob 1036001 = some (.box 68 b.cells) → Q .normal σ') : W Tryz.prog 1036000 (.loop c1036b0) σ (onBlock 0 Q) := by
  refine W_loop (fun m σ => ∃ i : Nat, i + m = b.sorts.length ∧ hvSs (b.sorts.drop i) = hvSs b.sorts ∧ σ.sl 1 = .c (.ref 1036001 (σ.tg 1036001) 0) ∧ σ.ob 1036001 = some (.box 68 b.cells) ∧ σ.sl 3 = .c (.v (.int .i64 i))) b.sorts.length ⟨0, by simp, by simp, s1, o1, s3⟩ ?_
  clear s1 o1 s3 σ
  rintro m σ ⟨i, hm, hp, s1, o1, s3⟩
  unfold c1036b0
  by_cases hi : i < b.sorts.length
  · have w1 := wrap_succ (i := i) (by omega)
    obtain ⟨s, hs⟩ := at_of hi
    obtain ⟨_, hs2⟩ := getE hs
    rw [drop_at hs, hvSs] at hp
    have f1 := fn1059 s.idx
    have f2 := fn17 [s.decType]
    have hv : hvS s = (heavyA s.idx || heavy [s.decType]) := rfl
    generalize heavyA s.idx = z1 at *
    generalize heavy [s.decType] = z2 at *
    rw [hv] at hp
    simp [s1, o1, s3, hi, hs2, S.cells, B.cells]
    refine ECall.fn f1 (by simp [ams]) (by simp) rfl fun _ => ?_
    cases z1 with
    | true =>
      simp at hp
      simp [bb, s1, o1, s3, hi, hs2, S.cells, B.cells]
      refine GCall.fn (fun _ => f2) (by simp [tms, cells_eq s.decType]) (by simp) rfl fun _ => ?_
      simp [bb]
      exact hR _ hp (by simp [bb])
    | false =>
      simp [bb, s1, o1, s3, hi, hs2, S.cells, B.cells]
      refine ⟨by simp [room], GCall.fn (fun _ => f2) (by simp [tms, cells_eq s.decType]) (by simp) rfl fun _ => ?_⟩
      cases z2 with
      | true =>
        simp at hp
        simp [bb]
        exact hR _ hp (by simp [bb])
      | false =>
        simp [bb, s3, w1]
        exact ⟨m - 1, by omega, i + 1, by omega, by simpa using hp, by simp [s1], by simp [o1, B.cells], by simp⟩
  · have : i = b.sorts.length := by omega
    subst this
    simp [hvSs] at hp
    simp [s1, o1, s3, B.cells]
    exact hQ _ hp (by simp [s1]) (by simp [o1, B.cells])
theorem loop1036b {σ : St} {Q : SEx → St → Prop} (b : B) (hl : b.cons.length ≤ 20) (s1 : σ.sl 1 = .c (.ref 1036001 (σ.tg 1036001) 0)) (o1 : σ.ob 1036001 = some (.box 68 b.cells)) (s4 : σ.sl 4 = .c (.v (.int .i64 (0 : Nat))))
    (hR : ∀ σ', hvKs b.cons = true → σ'.sl 2 = bb true → Q .ret σ') (hQ : ∀ σ', hvKs b.cons = false → Q .normal σ') : W Tryz.prog 1036000 (.loop c1036b1) σ (onBlock 2 Q) := by
  refine W_loop (fun m σ => ∃ i : Nat, i + m = b.cons.length ∧ hvKs (b.cons.drop i) = hvKs b.cons ∧ σ.sl 1 = .c (.ref 1036001 (σ.tg 1036001) 0) ∧ σ.ob 1036001 = some (.box 68 b.cells) ∧ σ.sl 4 = .c (.v (.int .i64 i))) b.cons.length ⟨0, by simp, by simp, s1, o1, s4⟩ ?_
  clear s1 o1 s4 σ
  rintro m σ ⟨i, hm, hp, s1, o1, s4⟩
  unfold c1036b1
  by_cases hi : i < b.cons.length
  · have w1 := wrap_succ (i := i) (by omega)
    obtain ⟨c, hs⟩ := at_of hi
    obtain ⟨_, hs2⟩ := getE hs
    rw [drop_at hs, hvKs] at hp
    have f1 := fn1059 c.args
    have f2 := fn17 c.idx
    have f3 := fn17 [c.dec]
    have hv : hvK c = (heavyA c.args || heavy c.idx || heavy [c.dec]) := rfl
    generalize heavyA c.args = z1 at *
    generalize heavy c.idx = z2 at *
    generalize heavy [c.dec] = z3 at *
    rw [hv] at hp
    simp [s1, o1, s4, hi, hs2, K.cells, B.cells]
    refine ECall.fn f1 (by simp [ams]) (by simp) rfl fun _ => ?_
    simp [bb, s1, o1, s4, hi, hs2, K.cells, B.cells]
    refine GCall.fn (fun _ => f2) (by simp [tms]) (by simp) rfl fun _ => ?_
    cases z1 with
    | true =>
      simp at hp
      simp [bb, s1, o1, s4, hi, hs2, K.cells, B.cells]
      refine GCall.fn (fun _ => f3) (by simp [tms, cells_eq c.dec]) (by simp) rfl fun _ => ?_
      simp [bb]
      exact hR _ hp (by simp [bb])
    | false =>
      cases z2 with
      | true =>
        simp at hp
        simp [bb, s1, o1, s4, hi, hs2, K.cells, B.cells]
        refine GCall.fn (fun _ => f3) (by simp [tms, cells_eq c.dec]) (by simp) rfl fun _ => ?_
        simp [bb]
        exact hR _ hp (by simp [bb])
      | false =>
        simp [bb, s1, o1, s4, hi, hs2, K.cells, B.cells]
        refine ⟨by simp [room], GCall.fn (fun _ => f3) (by simp [tms, cells_eq c.dec]) (by simp) rfl fun _ => ?_⟩
        cases z3 with
        | true =>
          simp at hp
          simp [bb]
          exact hR _ hp (by simp [bb])
        | false =>
          simp [bb, s4, w1]
          exact ⟨m - 1, by omega, i + 1, by omega, by simpa using hp, by simp [s1], by simp [o1, B.cells], by simp⟩
  · have : i = b.cons.length := by omega
    subst this
    simp [hvKs] at hp
    simp [s1, o1, s4, B.cells]
    exact hQ _ hp
theorem fn1036 (b : B) : Fn Tryz.prog 36 [bm b] (bb (heavyB b)) := by
  refine fn_of (base := 1036000) ok1036 rfl fun σ h0 hr => ?_
  have s0 : σ.sl 0 = bm b := h0 0
  simp only [bm] at s0
  clear h0 hr
  unfold c1036
  by_cases c1 : 10 < b.sorts.length
  · have c1' : (10 : Int) < b.sorts.length := by omega
    simp [s0, B.cells, c1, c1', r1036, bb, heavyB]
  · have c1' : ¬ (10 : Int) < b.sorts.length := by omega
    by_cases c2 : 20 < b.cons.length
    · have c2' : (20 : Int) < b.cons.length := by omega
      simp [s0, B.cells, c1, c1', c2, c2', r1036, bb, heavyB]
    · have c2' : ¬ (20 : Int) < b.cons.length := by omega
      simp [s0, B.cells, c1, c1', c2, c2']
      refine loop1036a b (by omega) (by simp) (by simp [B.cells]) (by simp) (fun σ' e q => ?_) fun σ' e q1 o1 => ?_
      · simp [q, r1036, bb, heavyB, e]
      simp [q1, o1]
      refine loop1036b b (by omega) (by simp [q1]) (by simp [o1]) (by simp) (fun σ'' e2 q => ?_) fun σ'' e2 => ?_
      · simp [q, r1036, bb, heavyB, e2]
      · simp [r1036, bb, heavyB, c1, c2, e, e2]
def hvE (e : En) : Bool := heavy [e.typ, e.body] || heavyB e.block
def hvEs : Int → List En → Bool
  | n, [] => decide (20000 < n)
  | n, e :: l => if hvE e then true else hvEs (IntKind.wrap .i64 (IntKind.wrap .i64 (n + e.typ.size) + e.body.size)) l
def heavyEnv (l : List En) : Bool := if 220 < l.length then true else hvEs 0 l
theorem fn1016 (l : List En) : Fn Tryz.prog 16 [ens l] (bb (heavyEnv l)) := by
  refine fn_of (base := 1016000) ok1016 rfl fun σ h0 hr => ?_
  have s0 : σ.sl 0 = .c (.sl 12 160 (l.map En.cells)) := h0 0
  clear h0 hr
  unfold c1016
  by_cases c1 : 220 < l.length
  · have c1' : (220 : Int) < l.length := by omega
    simp [s0, c1, c1', r1016, bb, heavyEnv]
  · have c1' : ¬ (220 : Int) < l.length := by omega
    have hd : heavyEnv l = hvEs 0 l := by rw [heavyEnv, if_neg c1]
    rw [hd]
    simp [s0, c1, c1', -W_block]
    rw [W_block]
    refine W_loop (fun m σ => ∃ i n, i + m = l.length ∧ hvEs n (l.drop i) = hvEs 0 l ∧ σ.sl 0 = .c (.sl 12 160 (l.map En.cells)) ∧ σ.sl 3 = .c (.v (.int .i64 n)) ∧ σ.sl 4 = .c (.v (.int .i64 (i : Nat)))) l.length ?_ ?_
    · exact ⟨0, 0, by simp, by simp, by simp [s0], by simp, by simp⟩
    clear s0 σ
    rintro m σ ⟨i, n, hm, hp, s0, s3, s4⟩
    unfold c1016b0
    by_cases hi : i < l.length
    · have w1 := wrap_succ (i := i) (by omega)
      obtain ⟨e, he⟩ := at_of hi
      obtain ⟨_, he2⟩ := getE he
      rw [drop_at he, hvEs] at hp
      have f1 := fn17 [e.typ, e.body]
      have f2 := fn1036 e.block
      have g1 := fn28 e.typ
      have g2 := fn28 e.body
      have hv : hvE e = (heavy [e.typ, e.body] || heavyB e.block) := rfl
      generalize heavy [e.typ, e.body] = z1 at *
      generalize heavyB e.block = z2 at *
      rw [hv] at hp
      simp [s0, s3, s4, hi]
      refine W_dregA ?_
      simp [s0, s3, s4, hi, he2, En.cells]
      refine ⟨by simp [room], CallA.fn f1 (by simp [tms, cells_eq e.typ, cells_eq e.body]) (by simp) rfl ?_⟩
      cases z1 with
      | true =>
        simp at hp
        simp [bb, s0, s3, s4, hi, he2, En.cells]
        refine GCallA.fn (fun _ => f2) (by simp [bm, B.cells]) (by simp) rfl ?_
        simp [bb]
        refine realC_n ?_
        simp [r1016, hp]
      | false =>
        simp [bb, s0, s3, s4, hi, he2, En.cells]
        refine GCallA.fn (fun _ => f2) (by simp [bm, B.cells]) (by simp) rfl ?_
        cases z2 with
        | true =>
          simp at hp
          simp [bb]
          refine realC_n ?_
          simp [r1016, hp]
        | false =>
          simp at hp
          simp [bb]
          refine realC_n ?_
          simp [s0, s3, s4, hi]
          refine W_dregA ?_
          simp [s0, s3, s4, hi, he2, En.cells]
          refine CallA.fn g1 (by simp [tm, cells_eq e.typ]) (by simp) rfl ?_
          simp [ib, s0, s3, s4, hi, he2, En.cells]
          refine CallA.fn g2 (by simp [tm, cells_eq e.body]) (by simp) rfl ?_
          simp [ib]
          refine realC_n ?_
          simp [s0, s4, w1]
          exact ⟨m - 1, by omega, i + 1, by omega, _, hp, rfl, rfl⟩
    · have : i = l.length := by omega
      subst this
      simp [hvEs] at hp
      simp [s0, s3, s4, r1016, bb, hp]
end Go.Abs
