/- THIS TEXT PROVES A PART OF A CALCULUS THAT TELLS WHAT A LOADED GO FUNCTION DOES WITHOUT NAMING MEMORY: each rule is proved against the machine, for every program and every world; its conditions stand in each theorem. -/
import Derived.Test.YtmnjbnkenfefaaaAbs10
import Derived.Laws.MakeOwn
set_option linter.unusedVariables false
set_option linter.unusedSimpArgs false
namespace Go.Abs

variable {P : Program} {I : Init} {n : Nat} {σ : St} {g g' : Gh} {a : Act} {w w' : World} {o : Oper} {e : Eff} {key : Nat}

theorem RD_bs {sz bx bs : Nat} {es : List (List Cell)} {v : Value} (h : RD g w (.sl sz bx es) v) (hb : es.length * bs ≤ room) : RD g w (.sl sz bs es) v := by
  cases h with
  | sl _ _ _ q c vs a1 a2 a3 a4 a5 => exact .sl sz bs es q c vs a1 hb a3 a4 a5

theorem info_of {t sz : Nat} (h : szT P t = some sz) : ∃ i, P.info? t = some i ∧ i.size = sz := by
  unfold szT at h
  obtain ⟨i, h1, h2⟩ := Option.map_eq_some_iff.1 h
  exact ⟨i, h1, h2⟩

theorem zero_of {t : Nat} {zs : List Cell} {i : TypeInfo} (h : zeroOK P t zs = true) (hi : P.info? t = some i) : ∃ z, i.zero = some z ∧ zcs z.cells.toList zs = true := by
  unfold zeroOK at h
  rw [hi] at h
  simp only at h
  split at h
  · rename_i z hz; exact ⟨z, hz, h⟩
  · cases h

theorem run_app_zero {t ty sz c c' o' : Nat} {m : Nat} {q q' : Option Addr} (ht : elemT P t = some ty) (hsz : szT P ty = some sz) (hle : m ≤ c) :
    (Builtin.append_ #[t, t] o' #[.slice q m c, .slice q' 0 c']).run P w = .ok (.slice q m c) w := by
  obtain ⟨i, hi, rfl⟩ := info_of hsz
  cases q <;> cases q' <;> simp [Builtin.append_, run_underlying (elemT_spec ht), sizeOf, typeInfo, hi, Builtin.lenOf, Builtin.firstCells, loadCells, loadCellsFrom, hle, storeCells]

theorem s_app (hR : Rel I n σ g a w) {x1 x2 : Operand} {y1 y2 : SArg} {t ty sz bs : Nat} (ho : o.op = .call { callee := .builtin .append, args := #[x1, x2], argTypes := #[t, t] }) (h1 : okA x1 y1 = true) (h2 : okA x2 y2 = true)
    (ht : elemT P t = some ty) (hsz : szT P ty = some sz) (hs0 : 0 < sz) (hbs : bsT P ty = some bs) (hb0 : 0 < bs) (hz : ∃ i z, P.info? ty = some i ∧ i.zero = some z ∧ z.cells.size = sz)
    (he : ev1 key σ.ev σ (.app ty sz bs y1 y2) = some e) (hc : cond true σ.ev σ (.app ty sz bs y1 y2)) : Does P I σ g a w o e := by
  have v1 := opd hR h1 hc.1
  have v2 := opd hR h2 hc.2.1
  have hc3 := hc.2.2 rfl
  obtain ⟨i, hi, hisz⟩ := info_of hsz
  obtain ⟨z, hz1, hzc⟩ : ∃ z, i.zero = some z ∧ z.cells.size = sz := by
    obtain ⟨i', z, q1, q2, q3⟩ := hz
    rw [hi] at q1; cases q1; exact ⟨z, q2, q3⟩
  have hib : i.bytes = bs := by
    unfold bsT at hbs
    obtain ⟨i', q1, q2⟩ := Option.map_eq_some_iff.1 hbs
    rw [hi] at q1; cases q1; exact q2
  have hop : ∀ v u r w', a.eval x1 = v → a.eval x2 = u → (Builtin.append_ #[t, t] o.type #[v, u]).run P w = .ok r w' → (execOp a.eval o).run P w = .ok (.value r) w' := fun v u r w' e1 e2 hr => by
    simp [execOp, ho, resolve, invoke, builtin, e1, e2, hr]
  simp only [ev1] at he
  split at he
  · rename_i sy by_ ys ey
    have hy := elems_spec hR v2 ey
    obtain ⟨hysz, hc4⟩ := hc3 _ ey
    simp only at hysz hc4 hy
    -- the common end
    have main : ∀ (es : List (List Cell)) (v : Value) (c : Nat) (q : Option Addr) (l : List Value) (pur : List Nat), a.eval x1 = v → v = .slice q es.length c → es.length ≤ c → (∀ x, x ∈ es → x.length = sz) → l.length = es.length * sz →
        (0 < es.length → ∃ ad, q = some ad ∧ ∀ (j : Nat) u, l[j]? = some u → w.cell? (ad.add j) = some u) → (q = none → c = 0) → (∀ i j x d, es[i]? = some x → x[j]? = some d → ∃ u, l[i * sz + j]? = some u ∧ RD g w d u) → (es.length + ys.length) * bs ≤ room → key ∈ pur →
        (es.length < c → ∃ k ob0 arr, σ.ob k = some ob0 ∧ Active g k ob0 ∧ k ∈ pur ∧ q = some ⟨g.blk k, 0, none⟩ ∧ w.heap[g.blk k]? = some (.cells arr ty (0, 0)) ∧ arr.size = c * sz ∧ (∀ (j : Nat) u, l[j]? = some u → arr[j]? = some u) ∧ ∀ x, g.st (g.blk k) x → x < es.length * sz) →
        (es.length = c → ys = [] → (RD g w (.sl sz bs es) v ∨ ∃ k ob0 arr, σ.ob k = some ob0 ∧ Active g k ob0 ∧ k ∈ pur ∧ q = some ⟨g.blk k, 0, none⟩ ∧ w.heap[g.blk k]? = some (.cells arr ty (0, 0)) ∧ arr.size = c * sz ∧ (∀ (j : Nat) u, l[j]? = some u → arr[j]? = some u) ∧ ∀ x, g.st (g.blk k) x → x < es.length * sz)) →
        e = ⟨.c (.own key (σ.tg key + 1)), pur, [(key, .row ty sz bs (es ++ ys))], e.rd⟩ → Does P I σ g a w o e := by
      intro es v c q l pur ev hv hle hsz1 hl hcells hq0 heach hroom hkey hown hex hee
      have hee' : e.val = .c (.own key (σ.tg key + 1)) ∧ e.pur = pur ∧ e.put = [(key, .row ty sz bs (es ++ ys))] := by rw [hee]; exact ⟨rfl, rfl, rfl⟩
      have h63 : es.length + ys.length ≤ 140737488355328 := Nat.le_trans (Nat.le_mul_of_pos_right _ hb0) hroom
      -- y, in a list
      have hylist : ∃ (qy : Option Addr) (cy : Nat) (ly : List Value), a.eval x2 = .slice qy ys.length cy ∧ (∀ x, x ∈ ys → x.length = sz) ∧ ly.length = ys.length * sz ∧ (0 < ys.length → ∃ ad, qy = some ad ∧ ∀ (j : Nat) u, ly[j]? = some u → w.cell? (ad.add j) = some u) ∧
          (∀ i j x d, ys[i]? = some x → x[j]? = some d → ∃ u, ly[i * sz + j]? = some u ∧ RD g w d u) ∧ ∀ u, u ∈ ly → u.oneCell' = true := by
        rcases hysz with rfl | rfl
        · obtain ⟨qy, cy, ly, a1, _, _, a4, a5, a6, a7, a8⟩ := RD_list hy hs0
          exact ⟨qy, cy, ly, a1, a4, a5, fun hp => by obtain ⟨ad, b1, b2⟩ := a6 hp; exact ⟨ad, b1, fun j u hj => (b2 j u hj).2⟩, a7, a8⟩
        · obtain ⟨qy, cy, a1, _⟩ := RD_len hy
          exact ⟨qy, cy, [], a1, by simp, by simp, by simp, by simp, by simp⟩
      obtain ⟨qy, cy, ly, y1', y2', y3', y4', y5', y6'⟩ := hylist
      have hin : ∀ k ob0 arr, σ.ob k = some ob0 → Active g k ob0 → k ∈ pur → q = some ⟨g.blk k, 0, none⟩ → w.heap[g.blk k]? = some (.cells arr ty (0, 0)) → arr.size = c * sz → (∀ (j : Nat) u, l[j]? = some u → arr[j]? = some u) → (∀ x, g.st (g.blk k) x → x < es.length * sz) → es.length + ys.length ≤ c → Does P I σ g a w o e := by
        intro k ob0 arr p1 p2 p3 p4 p5 p6 p7 p8 hfit
        refine does_app_in hR p1 p2 rfl p3 hkey p5 p6 hl p7 hsz1 y2' heach y5' p8 hfit y3' hroom (hop v _ _ _ ev y1' ?_) hee'
        rw [hv, p4]
        by_cases hm : ys.length = 0
        · have hly : ly = [] := List.eq_nil_of_length_eq_zero (by rw [y3', hm]; simp)
          subst hly
          rw [hm, run_app_zero ht hsz hle]
          simp only [Nat.add_zero, List.append_nil, List.length_nil, List.take_append_drop, Array.toArray_toList]
          rw [setRow_self w _ arr ty (0, 0) p5]
        · obtain ⟨ad, rfl, hcy⟩ := y4' (by omega)
          have := run_append_room (P := P) w t o.type ty i (elemT_spec ht) hi (g.blk k) es.length c arr p5 ad ys.length cy ly (by rw [hisz]; exact y3') hcy y6' hfit (by rw [hisz, y3', p6, ← Nat.add_mul]; exact Nat.mul_le_mul_right _ hfit)
          rw [hisz] at this
          exact this
      by_cases hfit : es.length + ys.length ≤ c
      · by_cases hlt : es.length < c
        · obtain ⟨k, ob0, arr, p1, p2, p3, p4, p5, p6, p7, p8⟩ := hown hlt
          exact hin k ob0 arr p1 p2 p3 p4 p5 p6 p7 p8 hfit
        · have hcc : es.length = c := by omega
          have hys : ys = [] := List.eq_nil_of_length_eq_zero (by omega)
          rcases hex hcc hys with hrd | ⟨k, ob0, arr, p1, p2, p3, p4, p5, p6, p7, p8⟩
          · subst hys
            refine does_app_zero hR (ty := ty) (sz := sz) (bs := bs) (es := es) (q := q) hkey (by rw [← hcc] at hv; rw [← hv]; exact hrd) (hop v _ _ _ ev y1' ?_) (by rw [List.append_nil] at hee'; exact hee')
            rw [hv, ← hcc, List.length_nil, run_app_zero ht hsz (Nat.le_refl _)]
          · exact hin k ob0 arr p1 p2 p3 p4 p5 p6 p7 p8 hfit
      · have hm : 0 < ys.length := by omega
        obtain ⟨ad, rfl, hcy⟩ := y4' hm
        have hfits : Builtin.nextslicecap (es.length + ys.length) c * i.bytes ≤ 281474976710656 := growslice_fits (by omega) (by rw [hib]; exact hroom)
        have hge := grownCap_ge w (es.length + ys.length) c ty
        refine does_app_new hR hkey hl hsz1 y2' heach y5' hge y3' (rest := (Builtin.zeroCells z.cells (grownCap w (es.length + ys.length) c ty - (es.length + ys.length))).toList) (by simp [Builtin.zeroCells, hzc]) hroom (hop v _ _ _ ev y1' ?_) hee'
        rw [hv]
        cases q with
        | none =>
          have hc0 := hq0 rfl
          subst hc0
          have he0 : es.length = 0 := by omega
          have hl0 : l = [] := List.eq_nil_of_length_eq_zero (by rw [hl, he0]; simp)
          subst hl0
          rw [he0]
          have := run_append_nil (P := P) w t o.type ty i z (elemT_spec ht) hi hz1 ad ys.length cy ly (by rw [hisz]; exact y3') hcy hm (by omega) (by rw [hib]; rw [he0, Nat.zero_add] at hroom; unfold room at hroom; omega)
          rw [this]
          simp
          congr 2
          apply Array.ext'
          simp
        | some qa =>
          have hcl : ∀ (j : Nat) u, l[j]? = some u → w.cell? (qa.add j) = some u := fun j u hj => by
            have hlt := (List.getElem?_eq_some_iff.1 hj).1
            have : 0 < es.length := by
              rcases Nat.eq_zero_or_pos es.length with h0 | h0
              · rw [hl, h0] at hlt; simp at hlt
              · exact h0
            obtain ⟨ad', e1, e2⟩ := hcells this
            cases e1
            exact e2 j u hj
          have := run_append_grow (P := P) w t o.type ty i z (elemT_spec ht) hi hz1 qa es.length c l (by rw [hisz]; exact hl) hcl ad ys.length cy ly (by rw [hisz]; exact y3') hcy (by omega) (by omega) hfits
          rw [this]
          simp
          congr 2
          apply Array.ext'
          simp
    split at he
    · rename_i sx bx es ex
      cases he
      rw [ex] at v1 hc4
      simp only at hc4
      obtain ⟨hesz, hroom⟩ := hc4
      obtain ⟨hrd, qa, hqa⟩ := v1 (by simp)
      have hrd' : RD g w (.sl sz bs es) (a.eval x1) := by
        rcases hesz with rfl | rfl
        · exact RD_bs hrd (Nat.le_trans (Nat.mul_le_mul_right _ (Nat.le_add_right _ _)) hroom)
        · rw [hqa]; exact .sl sz bs [] qa _ (fun _ _ => undef) (Nat.le_refl _) (by simp [room]) (by simp) (by simp) (by simp)
      obtain ⟨q, c, l, a1, a2, _, a4, a5, a6, a7, a8⟩ := RD_list hrd' hs0
      have hcq : q = qa ∧ c = es.length := by rw [a1] at hqa; injection hqa with h1 h2 h3; exact ⟨h1, h3⟩
      obtain ⟨rfl, rfl⟩ := hcq
      refine main es (a.eval x1) es.length q l [key] rfl a1 (Nat.le_refl _) a4 a5 (fun hp => by obtain ⟨ad, b1, b2⟩ := a6 hp; exact ⟨ad, b1, fun j u hj => (b2 j u hj).2⟩) (fun hq => ?_) a7 hroom (by simp) (fun h => ?_) (fun _ _ => .inl hrd') rfl
      · rcases Nat.eq_zero_or_pos es.length with h0 | h0
        · exact h0
        · obtain ⟨ad, b1, _⟩ := a6 h0; rw [hq] at b1; cases b1
      · exact absurd h (Nat.lt_irrefl _)
    · rename_i k t1 ex
      rw [ex] at v1 hc4
      simp only at hc4
      split at he
      case isFalse => cases he
      rename_i htg
      have e1 := (v1 (by simp)).2.2 (by rw [hR.tags]; exact htg)
      split at he
      · rename_i ty' sx bx es eo
        simp only [eo] at hc4
        obtain ⟨rfl, hroom⟩ := hc4
        split at he
        · rename_i hty
          subst hty
          cases he
          have hob := hR.obs k _ eo
          have hrd := hob.1
          obtain ⟨q, c, l, a1, a2, _, a4, a5, a6, a7, a8⟩ := RD_list hrd hs0
          have hown : es.length < c → ∃ k' ob0 arr, σ.ob k' = some ob0 ∧ Active g k' ob0 ∧ k' ∈ [key, k] ∧ q = some ⟨g.blk k', 0, none⟩ ∧ w.heap[g.blk k']? = some (.cells arr ty' (0, 0)) ∧ arr.size = c * sx ∧ (∀ (j : Nat) u, l[j]? = some u → arr[j]? = some u) ∧ ∀ x, g.st (g.blk k') x → x < es.length * sx := fun hlt => by
            obtain ⟨b1, ⟨arr, b2, b3⟩, b4⟩ := hob.2 q es.length c a1 hlt
            refine ⟨k, _, arr, eo, ⟨q, _, c, a1, hlt⟩, by simp, b1, b2, b3, fun j u hj => ?_, b4⟩
            have hlt' := (List.getElem?_eq_some_iff.1 hj).1
            have : 0 < es.length := by
              rcases Nat.eq_zero_or_pos es.length with h0 | h0
              · rw [a5, h0] at hlt'; simp at hlt'
              · exact h0
            obtain ⟨ad, c1, c2⟩ := a6 this
            rw [b1] at c1; cases c1
            have := (c2 j u hj).2
            rw [add_blk, Nat.zero_add, cell_blk b2] at this
            exact this
          refine main es (a.eval x1) c q l [key, k] rfl (e1.1.trans a1) a2 a4 a5 (fun hp => by obtain ⟨ad, b1, b2⟩ := a6 hp; exact ⟨ad, b1, fun j u hj => (b2 j u hj).2⟩) (fun hq => ?_) a7 hroom (by simp) (fun h => ?_) (fun hcc hys => ?_) rfl
          · rcases Nat.lt_or_ge es.length c with h0 | h0
            · obtain ⟨b1, _⟩ := hob.2 q es.length c a1 h0; rw [hq] at b1; cases b1
            · rcases Nat.eq_zero_or_pos es.length with h1 | h1
              · omega
              · obtain ⟨ad, b1, _⟩ := a6 h1; rw [hq] at b1; cases b1
          · obtain ⟨k', ob0, arr, p1, p2, p3, p4, p5, p6, p7, p8⟩ := hown h
            exact ⟨k', ob0, arr, p1, p2, p3, p4, p5, p6, p7, p8⟩
          · refine .inl ?_
            rw [e1.1]
            exact RD_bs hrd (Nat.le_trans (Nat.mul_le_mul_right _ (Nat.le_add_right _ _)) hroom)
        · cases he
      · rename_i ty' sx bx es eo
        simp only [eo] at hc4
        obtain ⟨rfl, hroom⟩ := hc4
        split at he
        · rename_i hty
          subst hty
          cases he
          obtain ⟨arr, c, f1, f2, f3, f4, f5, f6, f7, f8⟩ := hR.obs k _ eo
          have hlen : es.length * sx ≤ arr.size := by rw [f4]; exact Nat.mul_le_mul_right _ f2
          have hl : (arr.toList.take (es.length * sx)).length = es.length * sx := by simp; omega
          have hla : ∀ (j : Nat) u, (arr.toList.take (es.length * sx))[j]? = some u → arr[j]? = some u := fun j u hj => by
            rw [List.getElem?_take] at hj
            split at hj
            · simpa using hj
            · cases hj
          have howner : ∃ k' ob0 arr', σ.ob k' = some ob0 ∧ Active g k' ob0 ∧ k' ∈ [key, k] ∧ (some ⟨g.blk k, 0, none⟩ : Option Addr) = some ⟨g.blk k', 0, none⟩ ∧ w.heap[g.blk k']? = some (.cells arr' ty' (0, 0)) ∧ arr'.size = c * sx ∧ (∀ (j : Nat) u, (arr.toList.take (es.length * sx))[j]? = some u → arr'[j]? = some u) ∧ ∀ x, g.st (g.blk k') x → x < es.length * sx :=
            ⟨k, _, arr, eo, trivial, by simp, rfl, f3, f4, hla, fun x hx => absurd hx (f8 x)⟩
          refine main es (a.eval x1) c (some ⟨g.blk k, 0, none⟩) _ [key, k] rfl (e1.1.trans f1) f2 f6 hl (fun _ => ⟨_, rfl, fun j u hj => ?_⟩) (fun hq => by cases hq) (fun i j x d p1 p2 => ?_) hroom (by simp) (fun _ => howner) (fun _ _ => .inr howner) rfl
          · rw [add_blk, Nat.zero_add, cell_blk f3]; exact hla j u hj
          · obtain ⟨u, q1, q2⟩ := f7 i j x d p1 p2
            refine ⟨u, ?_, q2⟩
            have hx := f6 x (List.mem_of_getElem? p1)
            have hj := (List.getElem?_eq_some_iff.1 p2).1
            have hi' := (List.getElem?_eq_some_iff.1 p1).1
            have : (i + 1) * sx ≤ es.length * sx := Nat.mul_le_mul_right _ hi'
            rw [Nat.add_mul] at this
            rw [List.getElem?_take, if_pos (by omega)]
            simpa using q1
        · cases he
      · cases he
    · cases he
  · cases he

end Go.Abs
