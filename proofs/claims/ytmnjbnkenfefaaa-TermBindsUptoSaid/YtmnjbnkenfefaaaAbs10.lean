/- THIS TEXT PROVES A PART OF A CALCULUS THAT TELLS WHAT A LOADED GO FUNCTION DOES WITHOUT NAMING MEMORY: each rule is proved against the machine, for every program and every world; its conditions stand in each theorem. -/
import Derived.Test.YtmnjbnkenfefaaaAbs9
import Derived.Laws.AppendOwn
set_option linter.unusedVariables false
set_option linter.unusedSimpArgs false
namespace Go.Abs

variable {P : Program} {I : Init} {n : Nat} {σ : St} {g g' : Gh} {a : Act} {w w' : World} {o : Oper} {e : Eff} {key : Nat}

theorem Step.of_drew {pur : List Nat} {put : List (Nat × Obj)} (h : Step I σ g w.drew pur put g' w') : Step I σ g w pur put g' w' where
  kp := ⟨fun ad hd => h.kp.keep ad hd⟩
  agree := h.agree
  anew := h.anew
  puts := h.puts
  keep := h.keep
  sep := h.sep
  seps := h.seps
  loc := h.loc
  wok := h.wok
  os := h.os
  tape := h.tape
  out := h.out
  grow := h.grow
  frame := h.frame

/-- The cells of a slice that is read, in one list. -/
theorem RD_list {sz bs : Nat} {es : List (List Cell)} {v : Value} (h : RD g w (.sl sz bs es) v) (hs0 : 0 < sz) :
    ∃ (q : Option Addr) (c : Nat) (l : List Value), v = .slice q es.length c ∧ es.length ≤ c ∧ es.length * bs ≤ room ∧ (∀ x, x ∈ es → x.length = sz) ∧ l.length = es.length * sz ∧ (0 < es.length → ∃ ad, q = some ad ∧ ∀ j u, l[j]? = some u → Lies g w (ad.add j) u) ∧
      (∀ i j x d, es[i]? = some x → x[j]? = some d → ∃ u, l[i * sz + j]? = some u ∧ RD g w d u) ∧ ∀ u, u ∈ l → u.oneCell' = true := by
  cases h with
  | sl _ _ _ q c vs a1 a2 a3 a4 a5 =>
    have hat : ∀ p, p < es.length * sz → ∃ x d, es[p / sz]? = some x ∧ x[p % sz]? = some d := fun p hp => by
      have h1 : p / sz < es.length := Nat.div_lt_of_lt_mul (by rw [Nat.mul_comm]; exact hp)
      have h2 : p % sz < sz := Nat.mod_lt _ hs0
      have h3 := a3 es[p / sz] (List.getElem_mem h1)
      exact ⟨es[p / sz], es[p / sz][p % sz]'(by omega), List.getElem?_eq_getElem h1, List.getElem?_eq_getElem (by omega)⟩
    have hlen : ((List.range (es.length * sz)).map fun p => vs (p / sz) (p % sz)).length = es.length * sz := by simp
    have hget : ∀ j u, ((List.range (es.length * sz)).map fun p => vs (p / sz) (p % sz))[j]? = some u → j < es.length * sz ∧ u = vs (j / sz) (j % sz) := fun j u hj => by
      have hj' : j < es.length * sz := by
        have := (List.getElem?_eq_some_iff.1 hj).1
        simpa using this
      rw [List.getElem?_map, List.getElem?_range hj'] at hj
      exact ⟨hj', by simpa using hj.symm⟩
    have hdm : ∀ p, p / sz * sz + p % sz = p := fun p => by rw [Nat.mul_comm]; exact Nat.div_add_mod p sz
    refine ⟨q, c, (List.range (es.length * sz)).map fun p => vs (p / sz) (p % sz), rfl, a1, a2, a3, hlen, fun hp => ?_, fun i j x d h1 h2 => ?_, fun u hu => ?_⟩
    · obtain ⟨x, d, e1, e2⟩ := hat 0 (Nat.mul_pos hp hs0)
      obtain ⟨ad, rfl, _⟩ := a4 _ _ x d e1 e2
      refine ⟨ad, rfl, fun j u hj => ?_⟩
      obtain ⟨hj', rfl⟩ := hget j u hj
      obtain ⟨x, d, e1, e2⟩ := hat j hj'
      obtain ⟨ad', e', hl⟩ := a4 _ _ x d e1 e2
      cases e'
      rw [hdm] at hl
      exact hl
    · have hx := a3 x (List.mem_of_getElem? h1)
      have hj : j < sz := by rw [← hx]; exact (List.getElem?_eq_some_iff.1 h2).1
      have hi : i < es.length := (List.getElem?_eq_some_iff.1 h1).1
      have hp : i * sz + j < es.length * sz := by
        have : (i + 1) * sz ≤ es.length * sz := Nat.mul_le_mul_right _ hi
        simp [Nat.add_mul] at this; omega
      have d1 : (i * sz + j) / sz = i := by rw [Nat.mul_comm, Nat.mul_add_div hs0, Nat.div_eq_of_lt hj, Nat.add_zero]
      have d2 : (i * sz + j) % sz = j := by rw [Nat.mul_comm, Nat.mul_add_mod, Nat.mod_eq_of_lt hj]
      refine ⟨vs i j, ?_, a5 i j x d h1 h2⟩
      rw [List.getElem?_map, List.getElem?_range hp]
      simp [d1, d2]
    · obtain ⟨j, hj⟩ := List.getElem?_of_mem hu
      obtain ⟨hj', rfl⟩ := hget j u hj
      obtain ⟨x, d, e1, e2⟩ := hat j hj'
      exact (a5 _ _ x d e1 e2).rc.one

theorem RD_join {sz bs b c : Nat} {es ys : List (List Cell)} {l1 l2 : List Value} (hc : es.length + ys.length ≤ c) (hb : (es.length + ys.length) * bs ≤ room) (hs1 : ∀ x, x ∈ es → x.length = sz) (hs2 : ∀ x, x ∈ ys → x.length = sz)
    (n1 : l1.length = es.length * sz) (h1 : ∀ i j x d, es[i]? = some x → x[j]? = some d → ∃ u, l1[i * sz + j]? = some u ∧ RD g w d u) (h2 : ∀ i j x d, ys[i]? = some x → x[j]? = some d → ∃ u, l2[i * sz + j]? = some u ∧ RD g w d u)
    (hl : ∀ j u, (l1 ++ l2)[j]? = some u → Lies g w ⟨b, j, none⟩ u) : RD g w (.sl sz bs (es ++ ys)) (.slice (some ⟨b, 0, none⟩) (es.length + ys.length) c) := by
  rw [← List.length_append]
  refine RD_flat (arr := l1 ++ l2) (by simpa using hc) (by simpa using hb) (fun x hx => ?_) fun i j x d e1 e2 => ?_
  · rcases List.mem_append.1 hx with h | h
    · exact hs1 x h
    · exact hs2 x h
  · by_cases hi : i < es.length
    · rw [List.getElem?_append_left hi] at e1
      obtain ⟨u, f1, f2⟩ := h1 i j x d e1 e2
      have : (l1 ++ l2)[i * sz + j]? = some u := by rw [List.getElem?_append_left (List.getElem?_eq_some_iff.1 f1).1]; exact f1
      exact ⟨u, this, hl _ _ this, f2⟩
    · rw [List.getElem?_append_right (by omega)] at e1
      obtain ⟨u, f1, f2⟩ := h2 _ j x d e1 e2
      have : (l1 ++ l2)[i * sz + j]? = some u := by
        have hle : es.length * sz ≤ i * sz := Nat.mul_le_mul_right _ (by omega)
        rw [List.getElem?_append_right (by omega), n1, show i * sz + j - es.length * sz = (i - es.length) * sz + j by rw [Nat.sub_mul]; omega]
        exact f1
      exact ⟨u, this, hl _ _ this, f2⟩


theorem cell_setRow {b ty : Nat} {arr arr' : Array Value} (hg : w.heap[b]? = some (.cells arr ty (0, 0))) (ad : Addr) (h : ad.block = b → arr'[ad.off]? = arr[ad.off]?) : (w.setRow b arr').cell? ad = w.cell? ad := by
  by_cases hb : ad.block = b
  · have h1 := setRow_heap w b arr arr' ty (0, 0) hg
    simp only [World.cell?, hb, h1, hg, h hb]
  · exact cell_setRow_other w b arr' ad hb

/-- append into room of the call's own. -/
theorem does_app_in (hR : Rel I n σ g a w) {ty sz bs b c k : Nat} {ob0 : Obj} {es ys : List (List Cell)} {arr : Array Value} {l news : List Value} {pur : List Nat} (hk : σ.ob k = some ob0) (ha : Active g k ob0) (hb : g.blk k = b) (hkp : k ∈ pur) (hkey : key ∈ pur)
    (hg : w.heap[b]? = some (.cells arr ty (0, 0))) (hsize : arr.size = c * sz) (hl : l.length = es.length * sz) (hla : ∀ (j : Nat) (u : Value), l[j]? = some u → arr[j]? = some u) (hs1 : ∀ x, x ∈ es → x.length = sz) (hs2 : ∀ x, x ∈ ys → x.length = sz)
    (h1 : ∀ i j x d, es[i]? = some x → x[j]? = some d → ∃ u, l[i * sz + j]? = some u ∧ RD g w d u) (h2 : ∀ i j x d, ys[i]? = some x → x[j]? = some d → ∃ u, news[i * sz + j]? = some u ∧ RD g w d u)
    (hst : ∀ x, g.st b x → x < es.length * sz) (hc : es.length + ys.length ≤ c) (hn : news.length = ys.length * sz) (hroom : (es.length + ys.length) * bs ≤ room)
    (hr : (execOp a.eval o).run P w = .ok (.value (.slice (some ⟨b, 0, none⟩) (es.length + ys.length) c)) (w.setRow b (arr.toList.take (es.length * sz) ++ news ++ arr.toList.drop (es.length * sz + news.length)).toArray))
    (he : e.val = .c (.own key (σ.tg key + 1)) ∧ e.pur = pur ∧ e.put = [(key, .row ty sz bs (es ++ ys))]) : Does P I σ g a w o e := by
  have hblt : b < w.heap.size := by rw [← hb]; exact act_lt (hR.obs k _ hk) ha
  have hloc : I.mine b ∨ I.w0.heap.size ≤ b := by rw [← hb]; exact hR.loc k _ hk ha
  have hle : es.length * sz ≤ arr.size := by rw [hsize]; exact Nat.mul_le_mul_right _ (by omega)
  have hle2 : es.length * sz + news.length ≤ arr.size := by rw [hsize, hn, ← Nat.add_mul]; exact Nat.mul_le_mul_right _ hc
  let arr' : Array Value := (arr.toList.take (es.length * sz) ++ news ++ arr.toList.drop (es.length * sz + news.length)).toArray
  have hlow : ∀ x, x < es.length * sz → arr'[x]? = arr[x]? := fun x hx => by
    simp only [arr', List.getElem?_toArray]
    rw [List.append_assoc, List.getElem?_append_left (by simp; omega), List.getElem?_take, if_pos hx]
    simp
  have hall : ∀ j u, (l ++ news)[j]? = some u → arr'[j]? = some u := fun j u hj => by
    by_cases hj1 : j < l.length
    · rw [List.getElem?_append_left hj1] at hj
      rw [hlow j (by omega)]; exact hla j u hj
    · rw [List.getElem?_append_right (by omega)] at hj
      have := (List.getElem?_eq_some_iff.1 hj).1
      simp only [arr', List.getElem?_toArray]
      rw [List.append_assoc, List.getElem?_append_right (by simp; omega), List.getElem?_append_left (by simp; omega)]
      rw [← hj]
      congr 1
      simp; omega
  have hg' : (w.setRow b arr').heap[b]? = some (.cells arr' ty (0, 0)) := setRow_heap w b arr arr' ty (0, 0) hg
  let st' : Nat → Nat → Prop := fun b' x => g.st b' x ∨ (b' = b ∧ x < (es.length + ys.length) * sz)
  let g' := g.at key b (.slice (some ⟨b, 0, none⟩) (es.length + ys.length) c) st' pur
  have hkp' : Kp g w g' (w.setRow b arr') := ⟨fun ad had => ⟨.inl had, cell_setRow hg ad fun hbb => hlow _ (hst _ (hbb ▸ had))⟩⟩
  have hag : ∀ k', k' ∉ pur → g'.tg k' = g.tg k' ∧ g'.blk k' = g.blk k' ∧ g'.rv k' = g.rv k' := g.at_agree _ _ _ _ hkey
  have hother : ∀ k' o', σ.ob k' = some o' → Active g k' o' → k' ∉ pur → g.blk k' ≠ b := fun k' o' h ha' hn' hbb => by
    have := hR.sep k' k o' _ h hk ha' ha (by rw [hbb, hb])
    subst this
    exact hn' hkp
  have hsz' : arr'.size = c * sz := by
    simp only [arr', List.size_toArray, List.length_append, List.length_take, List.length_drop, Array.length_toList]
    omega
  obtain ⟨e1, e2, e3⟩ := he
  refine ⟨_, g', _, .inl hr, ?_, ?_⟩
  · rw [e2, e3]
    have one : ∀ k' q, [(key, Obj.row ty sz bs (es ++ ys))].lookup k' = some q → k' = key ∧ q = .row ty sz bs (es ++ ys) := fun k' q h => by
      simp only [List.lookup_cons] at h
      split at h
      · rename_i hkk; cases h; exact ⟨by simpa using hkk, rfl⟩
      · simp at h
    have hblk : g'.blk key = b := by simp [g', Gh.at]
    refine
      { kp := hkp', agree := hag, anew := g.at_anew _ _ _ _, puts := fun k' q h => ?_, keep := fun k' q h ha' _ hn' => ⟨setRow_other w b _ arr' (hother k' q h ha' hn'), fun x hx => ?_⟩, sep := fun k' q h _ k2 q2 h2' ha2 _ hn2 => ?_, seps := fun k1 k2 q1 q2 h1' h2' _ _ _ => ?_, loc := fun k' q h _ => ?_,
        wok := fun b' x h => ?_, os := rfl, tape := rfl, out := rfl, grow := by rw [setRow_size]; omega, frame := fun b' hb' hm => ?_ }
    · obtain ⟨rfl, rfl⟩ := one k' q h
      have hrv : g'.rv k' = .slice (some ⟨b, 0, none⟩) (es.length + ys.length) c := by simp [g', Gh.at]
      refine ⟨?_, fun q1 n1 c1 hq hlt => ?_⟩
      · rw [hrv]
        refine RD_join (l1 := l) (l2 := news) hc hroom hs1 hs2 hl (fun i j x d p1 p2 => ?_) (fun i j x d p1 p2 => ?_) fun j u hj => ⟨.inr ⟨rfl, ?_⟩, ?_⟩
        · obtain ⟨u, f1, f2⟩ := h1 i j x d p1 p2; exact ⟨u, f1, f2.mono hkp'⟩
        · obtain ⟨u, f1, f2⟩ := h2 i j x d p1 p2; exact ⟨u, f1, f2.mono hkp'⟩
        · have := (List.getElem?_eq_some_iff.1 hj).1
          simp [hl, hn] at this
          rw [Nat.add_mul]; exact this
        · rw [cell_blk hg']; exact hall j u hj
      · rw [hrv] at hq
        injection hq with hq1 hq2 hq3
        subst hq1; subst hq2; subst hq3
        rw [hblk]
        exact ⟨rfl, ⟨arr', hg', hsz'⟩, fun x hx => by
          rcases hx with hx | hx
          · have := hst x hx; rw [Nat.add_mul]; omega
          · exact hx.2⟩
    · rcases hx with hx | hx
      · exact hx
      · exact absurd hx.1 (hother k' q h ha' hn')
    · obtain ⟨rfl, rfl⟩ := one k' q h
      rw [hblk]; exact hother k2 q2 h2' ha2 hn2
    · exact (one k1 q1 h1').1.trans (one k2 q2 h2').1.symm
    · obtain ⟨rfl, rfl⟩ := one k' q h
      rw [hblk]; exact hloc
    · rw [setRow_size]
      rcases h with h | h
      · exact hR.wok _ _ h
      · rw [h.1]; exact hblt
    · have hne : b' ≠ b := fun hbb => by
        rcases hloc with h | h
        · exact hm (hbb ▸ h)
        · omega
      exact ⟨setRow_other w b _ arr' hne, fun x => ⟨fun h => h.resolve_right fun h => hne h.1, .inl⟩⟩
  · rw [e1]
    obtain ⟨k1, k2, k3⟩ := g.at_key key b (.slice (some ⟨b, 0, none⟩) (es.length + ys.length) c) st' hkey
    exact fun _ => ⟨rfl, by show _ ≤ g'.tg key; rw [k1, hR.tags]; exact Nat.le_refl _, fun _ => ⟨k3.symm, _, _, _, rfl⟩⟩

/-- append that lays a new block. -/
theorem does_app_new (hR : Rel I n σ g a w) {ty sz bs c : Nat} {es ys : List (List Cell)} {l news rest : List Value} {pur : List Nat} (hkey : key ∈ pur)
    (hl : l.length = es.length * sz) (hs1 : ∀ x, x ∈ es → x.length = sz) (hs2 : ∀ x, x ∈ ys → x.length = sz)
    (h1 : ∀ i j x d, es[i]? = some x → x[j]? = some d → ∃ u, l[i * sz + j]? = some u ∧ RD g w d u) (h2 : ∀ i j x d, ys[i]? = some x → x[j]? = some d → ∃ u, news[i * sz + j]? = some u ∧ RD g w d u)
    (hc : es.length + ys.length ≤ c) (hn : news.length = ys.length * sz) (hrest : rest.length = (c - (es.length + ys.length)) * sz) (hroom : (es.length + ys.length) * bs ≤ room)
    (hr : (execOp a.eval o).run P w = .ok (.value (.slice (some ⟨w.heap.size, 0, none⟩) (es.length + ys.length) c)) (w.drew.alloc (.cells (l ++ news ++ rest).toArray ty)))
    (he : e.val = .c (.own key (σ.tg key + 1)) ∧ e.pur = pur ∧ e.put = [(key, .row ty sz bs (es ++ ys))]) : Does P I σ g a w o e := by
  have hR' : Rel I n σ g a w.drew := hR.drew (w.drawn + 1)
  let S : Nat → Prop := fun x => x < (es.length + ys.length) * sz
  let st' : Nat → Nat → Prop := fun b' x => g.st b' x ∨ (b' = w.heap.size ∧ S x)
  let g' := g.at key w.heap.size (.slice (some ⟨w.heap.size, 0, none⟩) (es.length + ys.length) c) st' pur
  have hkp' : Kp g w g' (w.drew.alloc (.cells (l ++ news ++ rest).toArray ty)) := ⟨fun ad had => (Kp_alloc (w := w.drew) (g' := g') _ hR.wok fun b q h => Or.inl h).keep ad had⟩
  have hg' : (w.drew.alloc (.cells (l ++ news ++ rest).toArray ty)).heap[w.heap.size]? = some (.cells (l ++ news ++ rest).toArray ty (0, 0)) := heap_new (w := w.drew) _
  obtain ⟨e1, e2, e3⟩ := he
  have hrv : g'.rv key = .slice (some ⟨w.heap.size, 0, none⟩) (es.length + ys.length) c := by simp [g', Gh.at]
  have hblk : g'.blk key = w.heap.size := by simp [g', Gh.at]
  refine ⟨_, g', _, .inl hr, ?_, ?_⟩
  · rw [e2, e3]
    refine Step.of_drew (Step.alloc (key := key) hR' _ (S := S) (fun b q => Iff.rfl) (g.at_agree _ _ _ _ hkey) (g.at_anew _ _ _ _) (.inr ⟨_, rfl, ⟨?_, fun q1 n1 c1 hq hlt => ?_⟩, fun _ => hblk⟩))
    · rw [hrv]
      refine RD_join (l1 := l) (l2 := news) hc hroom hs1 hs2 hl (fun i j x d p1 p2 => ?_) (fun i j x d p1 p2 => ?_) fun j u hj => ⟨.inr ⟨rfl, ?_⟩, ?_⟩
      · obtain ⟨u, f1, f2⟩ := h1 i j x d p1 p2; exact ⟨u, f1, f2.mono hkp'⟩
      · obtain ⟨u, f1, f2⟩ := h2 i j x d p1 p2; exact ⟨u, f1, f2.mono hkp'⟩
      · have := (List.getElem?_eq_some_iff.1 hj).1
        simp [hl, hn] at this
        show j < _
        rw [Nat.add_mul]; exact this
      · rw [cell_blk hg', List.getElem?_toArray, List.getElem?_append_left (List.getElem?_eq_some_iff.1 hj).1]
        exact hj
    · rw [hrv] at hq
      injection hq with hq1 hq2 hq3
      subst hq1; subst hq2; subst hq3
      rw [hblk]
      refine ⟨rfl, ⟨_, hg', ?_⟩, fun x hx => ?_⟩
      · simp only [List.size_toArray, List.length_append, hl, hn, hrest, ← Nat.add_mul]
        congr 1; omega
      · rcases hx with hx | hx
        · exact absurd (hR.wok _ _ hx) (Nat.lt_irrefl _)
        · exact hx.2
  · rw [e1]
    obtain ⟨k1, k2, k3⟩ := g.at_key key w.heap.size (.slice (some ⟨w.heap.size, 0, none⟩) (es.length + ys.length) c) st' hkey
    exact fun _ => ⟨rfl, by show _ ≤ g'.tg key; rw [k1, hR.tags]; exact Nat.le_refl _, fun _ => ⟨k3.symm, _, _, _, rfl⟩⟩

/-- append of nothing to what is as long as its capacity. -/
theorem does_app_zero (hR : Rel I n σ g a w) {ty sz bs : Nat} {es : List (List Cell)} {q : Option Addr} {pur : List Nat} (hkey : key ∈ pur) (hv : RD g w (.sl sz bs es) (.slice q es.length es.length))
    (hr : (execOp a.eval o).run P w = .ok (.value (.slice q es.length es.length)) w) (he : e.val = .c (.own key (σ.tg key + 1)) ∧ e.pur = pur ∧ e.put = [(key, .row ty sz bs es)]) : Does P I σ g a w o e := by
  let g' := g.at key 0 (.slice q es.length es.length) g.st pur
  have hkp' : Kp g w g' w := ⟨fun ad h => ⟨h, rfl⟩⟩
  obtain ⟨e1, e2, e3⟩ := he
  have hrv : g'.rv key = .slice q es.length es.length := by simp [g', Gh.at]
  have one : ∀ k' p, [(key, Obj.row ty sz bs es)].lookup k' = some p → k' = key ∧ p = .row ty sz bs es := fun k' p h => by
    simp only [List.lookup_cons] at h
    split at h
    · rename_i hkk; cases h; exact ⟨by simpa using hkk, rfl⟩
    · simp at h
  have hno : ∀ p, p = Obj.row ty sz bs es → ¬ Active g' key p := fun p hp ha => by
    subst hp
    obtain ⟨q1, n1, c1, h1, h2⟩ := ha
    rw [hrv] at h1
    injection h1 with _ h3 h4
    omega
  refine ⟨_, g', _, .inl hr, ?_, ?_⟩
  · rw [e2, e3]
    refine
      { kp := hkp', agree := g.at_agree _ _ _ _ hkey, anew := g.at_anew _ _ _ _, puts := fun k' p h => ?_, keep := fun k' p h _ _ _ => ⟨rfl, fun _ h => h⟩, sep := fun k' p h ha => ?_, seps := fun k1 k2 q1 q2 h1' h2' _ _ _ => ?_, loc := fun k' p h ha => ?_,
        wok := hR.wok, os := rfl, tape := rfl, out := rfl, grow := Nat.le_refl _, frame := fun b' _ _ => ⟨rfl, fun _ => Iff.rfl⟩ }
    · obtain ⟨rfl, rfl⟩ := one k' p h
      refine ⟨by rw [hrv]; exact hv.mono hkp', fun q1 n1 c1 h1 h2 => ?_⟩
      rw [hrv] at h1
      injection h1 with _ h3 h4
      omega
    · obtain ⟨rfl, hp⟩ := one k' p h
      exact absurd ha (hno p hp)
    · exact (one k1 q1 h1').1.trans (one k2 q2 h2').1.symm
    · obtain ⟨rfl, hp⟩ := one k' p h
      exact absurd ha (hno p hp)
  · rw [e1]
    obtain ⟨k1, k2, k3⟩ := g.at_key key 0 (.slice q es.length es.length) g.st hkey
    exact fun _ => ⟨rfl, by show _ ≤ g'.tg key; rw [k1, hR.tags]; exact Nat.le_refl _, fun _ => ⟨k3.symm, _, _, _, rfl⟩⟩

end Go.Abs
