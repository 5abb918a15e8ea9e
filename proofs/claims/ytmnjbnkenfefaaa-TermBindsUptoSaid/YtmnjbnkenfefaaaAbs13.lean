/- THIS TEXT PROVES A PART OF A CALCULUS THAT TELLS WHAT A LOADED GO FUNCTION DOES WITHOUT NAMING MEMORY: each rule is proved against the machine, for every program and every world; its conditions stand in each theorem. -/
import Derived.Test.YtmnjbnkenfefaaaAbs12
set_option linter.unusedVariables false
set_option linter.unusedSimpArgs false
namespace Go.Abs

variable {P : Program} {I : Init} {n : Nat} {σ : St} {g g' : Gh} {a : Act} {w w' : World} {o : Oper} {e : Eff} {key : Nat}

theorem wrap_i64 {m : Int} (h0 : 0 ≤ m) (h1 : m ≤ 9223372036854775807) : IntKind.i64.wrap m = m := by
  simp only [IntKind.wrap, IntKind.bits, IntKind.signed, Bool.true_and]
  have h2 : m % (2 ^ 64 : Int) = m := Int.emod_eq_of_lt h0 (by omega)
  simp only [h2]
  split
  · rename_i h; simp at h; omega
  · rfl

theorem zs_data : ∀ {vs : List Value} {zs : List Cell}, zcs vs zs = true → ∀ (j : Nat) d, (zs.map Cell.plain)[j]? = some d → ∃ v, vs[j]? = some v ∧ ∀ (g : Gh) (w : World), RD g w d v
  | [], [], _, j, d, h => by simp at h
  | v :: vs, c :: cs, h, 0, d, hd => by
    simp [zcs] at h
    simp at hd
    subst hd
    refine ⟨v, rfl, fun g w => ?_⟩
    have hz := zc_spec (g := g) (w := w) h.1
    cases c with
    | v x => exact hz
    | cap sz bs es => exact hz.1
    | _ => cases v <;> simp [zc] at h
  | v :: vs, c :: cs, h, j + 1, d, hd => by
    simp [zcs] at h
    obtain ⟨v', e1, e2⟩ := zs_data h.2 j d (by simpa using hd)
    exact ⟨v', by simpa using e1, e2⟩
  | [], _ :: _, h, _, _, _ => by simp [zcs] at h
  | _ :: _, [], h, _, _, _ => by simp [zcs] at h

theorem zcs_len : ∀ {vs : List Value} {zs : List Cell}, zcs vs zs = true → vs.length = zs.length
  | [], [], _ => rfl
  | v :: vs, c :: cs, h => by simp [zcs] at h; simp [zcs_len h.2]
  | [], _ :: _, h => by simp [zcs] at h
  | _ :: _, [], h => by simp [zcs] at h

theorem s_mk (hR : Rel I n σ g a w) {x1 x2 : Operand} {y : SArg} {t ty sz bs : Nat} {zs : List Cell} (ho : o.op = .makeSlice t x1 x2) (h1 : okA x1 y = true) (h2 : okA x2 y = true) (ht : elemT P t = some ty) (hsz : szT P ty = some sz) (hs0 : 0 < sz) (hbs : bsT P ty = some bs) (hb0 : 0 < bs)
    (hz : zeroOK P ty zs = true) (hzl : zs.length = sz) (he : ev1 key σ.ev σ (.mk ty sz bs zs y) = some e) (hc : cond true σ.ev σ (.mk ty sz bs zs y)) : Does P I σ g a w o e := by
  have v1 := opd hR h1 hc.1
  have v2 := opd hR h2 hc.1
  have hc2 := hc.2
  obtain ⟨i, hi, hisz⟩ := info_of hsz
  obtain ⟨z, hz1, hz2⟩ := zero_of hz hi
  have hzc : z.cells.size = sz := by have := zcs_len hz2; simp at this; omega
  have hib : i.bytes = bs := by
    unfold bsT at hbs
    obtain ⟨i', q1, q2⟩ := Option.map_eq_some_iff.1 hbs
    rw [hi] at q1; cases q1; exact q2
  simp only [ev1] at he
  split at he
  · rename_i m em
    cases he
    rw [em] at v1 v2 hc2
    simp only at hc2
    obtain ⟨hm0, hroom⟩ : 0 ≤ m ∧ m * bs ≤ room := by simpa using hc2
    have e1 := RV2_v v1
    have e2 := RV2_v v2
    obtain ⟨q, rfl⟩ := Int.eq_ofNat_of_zero_le hm0
    have hq : q * bs ≤ room := by exact_mod_cast hroom
    have hq2 : q ≤ 140737488355328 := Nat.le_trans (Nat.le_mul_of_pos_right _ hb0) hq
    have hw : IntKind.i64.wrap (q : Int) = q := wrap_i64 (by omega) (by omega)
    let arr : Array Value := (Array.range (q * sz)).map (z.cells[· % z.cells.size]!)
    have hrun : (execOp a.eval o).run P w = .ok (.value (.slice (some ⟨w.heap.size, 0, none⟩) q q)) (w.alloc (.cells arr ty)) := by
      have hbig : ¬ ((bs : Int) * (q : Int) > 281474976710656) := by
        have : bs * q ≤ 140737488355328 := by rw [Nat.mul_comm]; exact hq
        omega
      by_cases hn : q * sz = 0
      · have hq0 : q = 0 := by
          rcases Nat.mul_eq_zero.1 hn with h | h
          · exact h
          · omega
        subst hq0
        simp [execOp, ho, e1, e2, Instr.makeSlice, run_underlying (elemT_spec ht), asInt, asIntOf, typeInfo, hi, run_sz hsz, newRow, arr, wrap_i64]
        congr 2
        apply Array.ext'
        simp
      · simp [execOp, ho, e1, e2, Instr.makeSlice, run_underlying (elemT_spec ht), asInt, asIntOf, typeInfo, hi, hib, run_sz hsz, hw, hbig, hn, newRow, arr, zeroValue, hz1]
        omega
    obtain ⟨k1, k2, k3⟩ := g.at_key key w.heap.size (.slice (some ⟨w.heap.size, 0, none⟩) q q) g.st (pur := [key]) (by simp)
    refine ⟨_, g.at key w.heap.size (.slice (some ⟨w.heap.size, 0, none⟩) q q) g.st [key], _, .inl hrun, Step.alloc (key := key) hR _ (S := fun _ => False) (fun b x => by simp [Gh.at]) (g.at_agree _ _ _ _ (by simp)) (g.at_anew _ _ _ _) (.inr ⟨_, rfl, ?_, fun _ => k2⟩), fun _ => ?_⟩
    · have harr : arr.size = q * sz := by simp [arr]
      refine ⟨arr, q, by rw [k3, k2]; simp, by simp, by rw [k2]; exact heap_new _, harr, by simpa using hq, fun l hl => ?_, fun p j l d h1 h2 => ?_, fun x hx => ?_⟩
      · simp at hl; obtain ⟨_, rfl⟩ := hl; simp [hzl]
      · have hp : p < q := by
          have := (List.getElem?_eq_some_iff.1 h1).1
          simpa using this
        have hl : l = zs.map Cell.plain := by
          rw [List.getElem?_replicate] at h1
          simp at h1; exact h1.2.symm
        subst hl
        obtain ⟨v, f1, f2⟩ := zs_data hz2 j d h2
        have hj : j < sz := by have := (List.getElem?_eq_some_iff.1 h2).1; simp at this; omega
        refine ⟨v, ?_, f2 (g.at key w.heap.size (.slice (some ⟨w.heap.size, 0, none⟩) q q) g.st [key]) _⟩
        have hlt : p * sz + j < q * sz := by
          have : (p + 1) * sz ≤ q * sz := Nat.mul_le_mul_right _ hp
          rw [Nat.add_mul] at this; omega
        have hmod : (p * sz + j) % z.cells.size = j := by rw [hzc, Nat.mul_comm, Nat.mul_add_mod, Nat.mod_eq_of_lt hj]
        simp only [arr, Array.getElem?_map, Array.getElem?_range, hlt, if_true, Option.map_some, hmod]
        rw [Array.getElem!_eq_getD, Array.getD_eq_getD_getElem?]
        have : z.cells[j]? = some v := by simpa using f1
        rw [this]; rfl
      · rw [k2] at hx
        have := hR.wok _ _ hx
        omega
    · exact ⟨rfl, by rw [k1, hR.tags]; exact Nat.le_refl _, fun _ => ⟨k3.symm, _, _, _, rfl⟩⟩
  · cases he

/-! ### cuts -/
def okO : Option Operand → Option SArg → Bool
  | none, none => true
  | some x, some y => okA x y
  | _, _ => false

theorem run_sliceBound {m : Int} {y : Nat} {code : BoundsCode} (h0 : 0 ≤ m) (h1 : m ≤ y) : (Instr.sliceBound (.int .i64 m) y code).run P w = .ok m.toNat w := by
  simp [Instr.sliceBound, asIntOf, h0, h1]

theorem RD_cut {sz sz' bs bs' : Nat} {es : List (List Cell)} {v : Value} (h : RD g w (.sl sz' bs' es) v) (hsz : sz' = sz ∨ es = []) (hb : es.length * bs ≤ room) {l hh : Nat} (h1 : l ≤ hh) (h2 : hh ≤ es.length) :
    ∃ q c, v = .slice q es.length c ∧ es.length ≤ c ∧ ∀ m, hh ≤ m → m ≤ c → ∃ q', (if m = l then q else q.map (·.add (l * sz))) = q' ∧ RD g w (.sl sz bs ((es.take hh).drop l)) (.slice q' (hh - l) (m - l)) := by
  cases h with
  | sl _ _ _ q c vs a1 a2 a3 a4 a5 =>
    refine ⟨q, c, rfl, a1, fun m m1 m2 => ⟨_, rfl, ?_⟩⟩
    have hlen : ((es.take hh).drop l).length = hh - l := by simp; omega
    have hat : ∀ i, ((es.take hh).drop l)[i]? = if i < hh - l then es[l + i]? else none := fun i => by
      rw [List.getElem?_drop, List.getElem?_take]
      by_cases hi : i < hh - l
      · rw [if_pos hi, if_pos (by omega)]
      · rw [if_neg hi, if_neg (by omega)]
    have hs : ∀ x, x ∈ es → x.length = sz := fun x hx => by
      rcases hsz with rfl | rfl
      · exact a3 x hx
      · simp at hx
    rw [← hlen]
    refine .sl sz bs _ _ _ (fun i j => vs (l + i) j) (by rw [hlen]; omega) (Nat.le_trans (Nat.mul_le_mul_right _ (by rw [hlen]; omega)) hb) (fun x hx => hs x (List.mem_of_mem_take (List.mem_of_mem_drop hx))) (fun i j x d e1 e2 => ?_) (fun i j x d e1 e2 => ?_)
    · rw [hat] at e1
      split at e1
      · rename_i hi
        obtain ⟨ad, rfl, hl⟩ := a4 _ j x d e1 e2
        have hszz : sz' = sz := by
          rcases hsz with h | h
          · exact h
          · subst h; simp at e1
        subst hszz
        rw [if_neg (by omega)]
        refine ⟨_, rfl, ?_⟩
        have : (ad.add (l * sz')).add (i * sz' + j) = ad.add ((l + i) * sz' + j) := by
          unfold Addr.add
          rw [Nat.add_mul]
          by_cases h1 : l * sz' = 0 <;> by_cases h2 : i * sz' + j = 0 <;> simp [h1, h2, Nat.add_assoc]
        rw [this]; exact hl
      · cases e1
    · rw [hat] at e1
      split at e1
      · exact a5 _ j x d e1 e2
      · cases e1

theorem s_slc (hR : Rel I n σ g a w) {x : Operand} {lo hi mx : Option Operand} {y : SArg} {lo' hi' mx' : Option SArg} {t t' q sz bs : Nat} (ho : o.op = .slice t x lo hi mx) (hx : okA x y = true) (hlo : okO lo lo' = true) (hhi : okO hi hi' = true) (hmx : okO mx mx' = true) (hmh : mx'.isSome = true → hi'.isSome = true)
    (ht : elemT P t = some q) (hsz : szT P q = some sz) (he : ev1 key σ.ev σ (.slc t' sz bs y lo' hi' mx') = some e) (hc : cond true σ.ev σ (.slc t' sz bs y lo' hi' mx')) : Does P I σ g a w o e := by
  have v1 := opd hR hx hc.1
  obtain ⟨_, c1, c2, c3, c4⟩ := hc
  simp only [ev1] at he
  split at he
  · rename_i sz' bs' es ee
    have hrd := elems_spec hR v1 ee
    obtain ⟨d1, d2, d3⟩ := c4 rfl _ ee
    simp only at d1 d2 d3 hrd
    split at he
    · rename_i l h el eh
      obtain ⟨p0, p1, p2, p3⟩ := d3 l h el eh
      obtain ⟨qa, c, f1, f2, f3⟩ := RD_cut (bs := bs) (l := l.toNat) (hh := h.toNat) hrd d1 d2 (by omega) (by omega)
      -- the bounds, as the machine has them
      have hl : ∀ code : BoundsCode, (match lo.map a.eval with | some v => Instr.sliceBound v h.toNat code | none => Pure.pure 0 : Sem Nat).run P w = .ok l.toNat w := fun code => by
        cases lo' with
        | none =>
          cases lo with
          | none => simp at el; subst el; simp
          | some _ => simp [okO] at hlo
        | some yl =>
          cases lo with
          | none => simp [okO] at hlo
          | some xl =>
            have := intOf_spec (opd hR (show okA xl yl = true from hlo) (c1 _ rfl)) el
            simp only [Option.map_some, this]
            exact run_sliceBound p0 (by omega)
      have hfin : ∀ (code : BoundsCode) (H M : Nat), (match lo.map a.eval with | some v => (do let l ← Instr.sliceBound v h.toNat code; Pure.pure (l, H, M)) | none => (do let l ← Pure.pure 0; Pure.pure (l, H, M)) : Sem (Nat × Nat × Nat)).run P w = .ok (l.toNat, H, M) w := fun code H M => by
        have := hl code
        cases lo with
        | none => simp at this ⊢; exact this
        | some xl => simp only [Option.map_some] at this ⊢; simp [this]
      have hh : ∀ (B : Nat) (code : BoundsCode), h.toNat ≤ B → ∀ xh, hi = some xh → (Instr.sliceBound (a.eval xh) B code).run P w = .ok h.toNat w := fun B code hB xh hxh => by
        subst hxh
        cases hi' with
        | none => simp [okO] at hhi
        | some yh =>
          have := intOf_spec (opd hR (show okA xh yh = true from hhi) (c2 _ rfl)) eh
          rw [this]
          exact run_sliceBound (by omega) (by omega)
      have hnone : hi = none → h = es.length := fun hn => by
        subst hn
        cases hi' with
        | none => simp at eh; exact eh.symm
        | some _ => simp [okO] at hhi
      cases mx' with
      | none =>
        cases he
        cases mx with
        | some _ => simp [okO] at hmx
        | none =>
          obtain ⟨q', g1, g2⟩ := f3 c (by omega) (Nat.le_refl _)
          refine does_quiet hR rfl rfl (v := .slice q' (h.toNat - l.toNat) (c - l.toNat)) ?_ (fun _ => g2)
          have hB : (Instr.sliceBounds true es.length c (lo.map a.eval) (hi.map a.eval) none).run P w = .ok (l.toNat, h.toNat, c) w := by
            cases hi with
            | none =>
              have hhn := hnone rfl
              have e0 : h.toNat = es.length := by omega
              have := hfin .sliceB h.toNat c
              simp only [Instr.sliceBounds, Option.map_none, Sem.run_bind, Sem.run_pure, Result.andThen_ok, Option.isSome_none, Bool.false_eq_true, if_false]
              rw [e0] at this ⊢
              exact this
            | some xh =>
              have h2 := hh c .sliceAcap (by omega) xh rfl
              have := hfin .sliceB h.toNat c
              simp only [Instr.sliceBounds, Option.map_some, Sem.run_bind, Sem.run_pure, Result.andThen_ok, Option.isSome_none, Bool.false_eq_true, if_false, if_true, h2]
              exact this
          simp only [execOp, ho, Instr.sliceAt, Sem.run_bind, run_underlying (elemT_spec ht), Result.andThen_ok, Instr.slice, f1, Option.map_none, hB, run_sz hsz, Sem.run_pure]
          rw [g1]
      | some ym =>
        simp only at he
        split at he
        · cases he
          cases mx with
          | none => simp [okO] at hmx
          | some xm =>
            have hm := intOf_spec (opd hR (show okA xm ym = true from hmx) (c3 _ rfl)) (p3 ym rfl)
            cases hi with
            | none =>
              cases hi' with
              | none => simp at hmh
              | some _ => simp [okO] at hhi
            | some xh =>
              obtain ⟨q', g1, g2⟩ := f3 h.toNat (Nat.le_refl _) (by omega)
              have hlen : ((es.take h.toNat).drop l.toNat).length = h.toNat - l.toNat := by simp; omega
              refine does_quiet hR rfl rfl (v := .slice q' (h.toNat - l.toNat) (h.toNat - l.toNat)) ?_ (fun _ => ⟨g2, q', by rw [hlen]⟩)
              have hB : (Instr.sliceBounds true es.length c (lo.map a.eval) (some (a.eval xh)) (some (a.eval xm))).run P w = .ok (l.toNat, h.toNat, h.toNat) w := by
                have h2 := hh h.toNat .slice3B (Nat.le_refl _) xh rfl
                have h3 := hfin .slice3C h.toNat h.toNat
                have h4 : (Instr.sliceBound (a.eval xm) c .slice3Acap).run P w = .ok h.toNat w := by rw [hm]; exact run_sliceBound (by omega) (by omega)
                simp only [Instr.sliceBounds, Sem.run_bind, if_true, h4, Result.andThen_ok, h2, Option.isSome_some]
                exact h3
              simp only [execOp, ho, Instr.sliceAt, Sem.run_bind, run_underlying (elemT_spec ht), Result.andThen_ok, Instr.slice, f1, Option.map_some, hB, run_sz hsz, Sem.run_pure]
              rw [g1]
        · cases he
    · cases he
  · cases he

end Go.Abs
