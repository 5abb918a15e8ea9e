/- THIS TEXT PROVES A PART OF A CALCULUS THAT TELLS WHAT A LOADED GO FUNCTION DOES WITHOUT NAMING MEMORY: each rule is proved against the machine, for every program and every world; its conditions stand in each theorem. -/
import Derived.Test.YtmnjbnkenfefaaaAbs19
set_option linter.unusedVariables false
set_option linter.unusedSimpArgs false
namespace Go.Abs

variable {P : Program} {I : Init} {n : Nat} {σ σ' : St} {g g' : Gh} {a : Act} {w w' : World} {o : Oper} {e : Eff}

/-! ### the told code: what must hold -/
def SOp.isCall : SOp → Bool
  | .call _ _ => true
  | _ => false
/-- Somewhere it is told of a value. -/
def RealA (x : AV) : Prop := ∃ g w v, RV g w x v
def W1 (P : Program) (base : Nat) (so : SO) (σ : St) (K : St → Prop) : Prop := ∃ e, SemO P base so σ e ∧ ((∀ d, so.dst = some d → so.op.isCall = true → RealA e.val) → K (σ.ap so.dst e))
def WOps (P : Program) (base : Nat) : List SO → St → (St → Prop) → Prop
  | [], σ, K => K σ
  | so :: l, σ, K => W1 P base so σ fun σ' => WOps P base l σ' K

def WD (P : Program) (base : Nat) (anc : List Nat) : Nat → List SO → St → List TE → (St → Prop) → Prop
  | _, [], σ, tr, K => fineW anc tr.reverse = true ∧ K σ
  | i, so :: l, σ, tr, K => ∃ e, SemO P base so σ e ∧ WD P base anc (i + 1) l (σ.ap so.dst e) (⟨i, wrote e, lkOf base so σ e⟩ :: tr) K

inductive SEx where
  | normal
  | exit (id : Nat)
  | ret

def St.frz (σ : St) (k ty sz bs : Nat) (es : List (List Cell)) : St := { σ with ob := fun k' => if k' = k then some (.row ty sz bs es) else σ.ob k' }

def onSeq (K : St → Prop) (Q : SEx → St → Prop) : SEx → St → Prop
  | .normal, σ => K σ
  | e, σ => Q e σ
def onBlock (id : Nat) (Q : SEx → St → Prop) : SEx → St → Prop
  | .exit id', σ => if id' = id then Q .normal σ else Q (.exit id') σ
  | e, σ => Q e σ

def W (P : Program) (base : Nat) : SCode → St → (SEx → St → Prop) → Prop
  | .skip, σ, Q => Q .normal σ
  | .reg l, σ, Q => WOps P base l σ (Q .normal)
  | .dreg anc l, σ, Q => WD P base anc 0 l σ [] (fun σ' => (∀ s, RealA (σ'.sl s)) → Q .normal σ')
  | .seq x y, σ, Q => W P base x σ (onSeq (fun σ' => W P base y σ' Q) Q)
  | .cond c x y, σ, Q => gok true (σ.ev c) ∧ ∃ t, un (σ.ev c) = .c (.v (.bool t)) ∧ (t = true → W P base x σ Q) ∧ (t = false → W P base y σ Q)
  | .block id x, σ, Q => W P base x σ (onBlock id Q)
  | .loop x, σ, Q => ∃ (J : Nat → St → Prop) (m : Nat), J m σ ∧ ∀ k σ, J k σ → W P base x σ (onSeq (fun σ' => ∃ k', k' < k ∧ J k' σ') Q)
  | .exit id, σ, Q => Q (.exit id) σ
  | .ret, σ, Q => Q .ret σ
  | .frz k, σ, Q => ∃ ty sz bs es, σ.ob k = some (.mrow ty sz bs es) ∧ Q .normal (σ.frz k ty sz bs es)

/-! ### the told code and the loaded one -/
def isFrz : SCode → Bool
  | .frz _ => true
  | _ => false
def okCode (P : Program) (n : Nat) : SCode → Code → Bool
  | .skip, c => match c with
    | .skip => true
    | _ => false
  | .reg l, c => match c with
    | .region _ ops false => okOps P n ops ops.toList l
    | _ => false
  | .dreg anc l, c => match c with
    | .region _ ops true => P.follows .mixedOrders && okOps P n ops ops.toList l && okAnc anc ops && okApart anc l
    | _ => false
  | .seq x y, c => if isFrz x then okCode P n y c else match c with
    | .seq x' y' => okCode P n x x' && okCode P n y y'
    | _ => false
  | .cond c x y, c' => match c' with
    | .cond d x' y' => okA d c && okCode P n x x' && okCode P n y y'
    | _ => false
  | .block id x, c => match c with
    | .block id' x' => decide (id' = id) && okCode P n x x'
    | _ => false
  | .loop x, c => match c with
    | .loop x' => okCode P n x x'
    | _ => false
  | .exit id, c => match c with
    | .exit id' => decide (id' = id)
    | _ => false
  | .ret, c => match c with
    | .ret => true
    | _ => false
  | .frz _, _ => false

theorem text2 {base : Nat} {ops : Array Oper} {sos : List SO} {Q : Exit → Act → World → Prop} {K : St → Prop} (hok : okOps P n ops ops.toList sos = true) (hK : ∀ σ g a w, K σ → Rel I n σ g a w → Q .normal a w) :
    ∀ {l : List SO} {pre : List SO} {σ : St} {g a w}, sos = pre ++ l → WOps P base l σ K → Rel I n σ g a w → wpOps P ops Q (List.range' pre.length l.length) a w
  | [], pre, σ, g, a, w, _, h, hR => by simpa [wpOps] using hK _ _ _ _ h hR
  | so :: l, pre, σ, g, a, w, hs, h, hR => by
    obtain ⟨e, h1, h2⟩ := h
    rw [List.length_cons, List.range'_succ, wpOps_cons]
    refine one_op hR hok (by rw [hs]; simp) h1 fun a' w' g' hR' => ?_
    have hcall : ∀ d, so.dst = some d → so.op.isCall = true → RealA e.val := fun d hd hc => by
      have := hR'.slots d
      rw [hd] at this
      simp only [St.ap, upd, if_true] at this
      exact ⟨_, _, _, this⟩
    have := text2 (pre := pre ++ [so]) hok hK (by rw [hs]; simp) (h2 hcall) hR'
    simpa using this

theorem WD_tr {base : Nat} {anc : List Nat} {K : St → Prop} : ∀ {l : List SO} {σ : St} {pre : List SO} {tr0 : List TE}, WD P base anc pre.length l σ tr0 K →
    ∃ tr σ', Tr P base (pre ++ l) (List.range' pre.length l.length) σ tr σ' ∧ fineW anc (tr0.reverse ++ tr) = true ∧ K σ'
  | [], σ, pre, tr0, h => ⟨[], σ, by simpa using Tr.nil σ, by simpa using h.1, h.2⟩
  | so :: l, σ, pre, tr0, h => by
    obtain ⟨e, h1, h2⟩ := h
    obtain ⟨tr, σ', h3, h4, h5⟩ := WD_tr (pre := pre ++ [so]) (by simpa using h2)
    refine ⟨⟨pre.length, wrote e, lkOf base so σ e⟩ :: tr, σ', ?_, ?_, h5⟩
    · rw [List.length_cons, List.range'_succ]
      refine .cons (by simp) h1 ?_
      simpa using h3
    · simpa using h4

theorem apartS_spec {sos : List SO} {x y : TE} {so so' : SO} (h1 : sos[x.i]? = some so) (h2 : sos[y.i]? = some so') (h : apartS so so' = true) :
    (∀ s, so.dst = some s → so'.dst ≠ some s ∧ s ∉ so'.looks) ∧ ∀ s, so'.dst = some s → s ∉ so.looks := by
  simp only [apartS, Bool.and_eq_true] at h
  constructor
  · intro s hs
    have := h.1
    rw [hs] at this
    simpa using this
  · intro s hs
    have := h.2
    rw [hs] at this
    simpa using this

theorem fine_pairs {anc : List Nat} {sos : List SO} {base m : Nat} {tr : List TE} (ht : Tr P base sos (List.range m) σ tr σ') (hm : m = sos.length) (hA : okApart anc sos = true) (hf : fineW anc tr = true) :
    tr.Pairwise fun x y => (anc.getD y.i 0).testBit x.i = true ∨ (anc.getD x.i 0).testBit y.i = true ∨ ApartT sos x y := by
  have hi : (tr.map (·.i)).Pairwise (· < ·) := by rw [ht.idx]; exact List.pairwise_lt_range
  have hlt : ∀ x, x ∈ tr → x.i < sos.length := fun x hx => by
    have : x.i ∈ tr.map (·.i) := List.mem_map_of_mem hx
    rw [ht.idx] at this
    rw [← hm]; simpa using this
  rw [List.pairwise_map] at hi
  refine List.Pairwise.imp_of_mem (fun {x y} hx hy hlt' => ?_) hi
  by_cases ha : (anc.getD y.i 0).testBit x.i = true
  · exact .inl ha
  by_cases hb : (anc.getD x.i 0).testBit y.i = true
  · exact .inr (.inl hb)
  have ha' : (anc.getD y.i 0).testBit x.i = false := by simpa using ha
  have hb' : (anc.getD x.i 0).testBit y.i = false := by simpa using hb
  refine .inr (.inr ?_)
  have hx1 := hlt x hx
  have hy1 := hlt y hy
  have hap : apartS sos[x.i] sos[y.i] = true := by
    simp only [okApart, List.all_eq_true, List.mem_range] at hA
    have := hA y.i hy1 x.i hlt'
    rw [ha', List.getElem?_eq_getElem hx1, List.getElem?_eq_getElem hy1] at this
    simpa using this
  have hk : kOK x y = true := by
    simp only [fineW, List.all_eq_true, List.mem_filter] at hf
    by_cases wx : x.wr = []
    · by_cases wy : y.wr = []
      · simp [kOK, wx, wy]
      · have := hf y ⟨hy, by simpa using wy⟩ x hx
        rw [ha', hb'] at this
        have hne : ¬ y.i = x.i := by omega
        simp [hne] at this
        simp only [kOK, Bool.and_eq_true] at this ⊢
        exact ⟨this.2, this.1⟩
    · have := hf x ⟨hx, by simpa using wx⟩ y hy
      rw [ha', hb'] at this
      have hne : ¬ x.i = y.i := by omega
      simpa [hne] using this
  simp only [kOK, Bool.and_eq_true, List.all_eq_true] at hk
  refine ⟨fun so so' h1 h2 => ?_, fun k hk' hm' => ?_, fun k hk' hm' => ?_⟩
  · rw [List.getElem?_eq_getElem hx1] at h1
    rw [List.getElem?_eq_getElem hy1] at h2
    cases h1; cases h2
    exact apartS_spec (sos := sos) (x := x) (y := y) (List.getElem?_eq_getElem hx1) (List.getElem?_eq_getElem hy1) hap
  · have := hk.1 k hk'
    simp at this
    exact this hm'
  · have := hk.2 k hk'
    simp at this
    exact this hm'

/-- A row that has been filled is never changed again. -/
theorem frz_sound {k ty sz bs : Nat} {es : List (List Cell)} (hR : Rel I n σ g a w) (h : σ.ob k = some (.mrow ty sz bs es)) : ∃ g', Rel I n (σ.frz k ty sz bs es) g' a w := by
  obtain ⟨arr, c, h1, h2, h3, h4, h5, h6, h7, h8⟩ := hR.obs k _ h
  let g' : Gh := ⟨fun b x => g.st b x ∨ (b = g.blk k ∧ x < es.length * sz), g.blk, g.rv, g.tg⟩
  have hkp : Kp g w g' w := ⟨fun ad hs => ⟨.inl hs, rfl⟩⟩
  have hle : g.Le g' := ⟨fun _ => .inr ⟨rfl, rfl, rfl⟩⟩
  have hblk : g.blk k < w.heap.size := (Array.getElem?_eq_some_iff.1 h3).1
  have hact : ∀ k' q, Active g' k' q ↔ Active g k' q := fun k' q => by cases q <;> exact Iff.rfl
  have hne : ∀ k' q, k' ≠ k → σ.ob k' = some q → Active g k' q → g.blk k' ≠ g.blk k := fun k' q hk hq ha hb => hk (hR.sep k' k q _ hq h ha trivial hb)
  refine ⟨g',
    { size := hR.size, tags := hR.tags, slots := fun s => (hR.slots s).mono hkp hle, defs := hR.defs, obs := fun k' q hq => ?_, sep := fun k1 k2 q1 q2 e1 e2 a1 a2 hb => ?_, wok := fun b x hx => ?_, os := hR.os, tape := hR.tape, out := hR.out,
      grow := hR.grow, frame := fun b hb hm => ?_, kp := hR.kp.trans hkp, le := hR.le.trans hle, loc := fun k' q hq ha => ?_ }⟩
  · simp only [St.frz] at hq
    by_cases hk : k' = k
    · subst hk
      rw [if_pos rfl] at hq
      cases hq
      have hcell : ∀ i j l d, es[i]? = some l → l[j]? = some d → i * sz + j < es.length * sz := fun i j l d e1 e2 => by
        have hi := (List.getElem?_eq_some_iff.1 e1).1
        have hj := (List.getElem?_eq_some_iff.1 e2).1
        rw [h6 l (List.mem_of_getElem? e1)] at hj
        have : (i + 1) * sz ≤ es.length * sz := Nat.mul_le_mul_right _ hi
        rw [Nat.add_mul] at this
        omega
      have hch : ∀ i j, ∃ v, ∀ l d, es[i]? = some l → l[j]? = some d → arr[i * sz + j]? = some v ∧ RD g w d v := fun i j => by
        by_cases hx : ∃ l d, es[i]? = some l ∧ l[j]? = some d
        · obtain ⟨l, d, e1, e2⟩ := hx
          obtain ⟨x, f1, f2⟩ := h7 i j l d e1 e2
          refine ⟨x, fun l' d' e1' e2' => ?_⟩
          rw [e1] at e1'; cases e1'
          rw [e2] at e2'; cases e2'
          exact ⟨f1, f2⟩
        · exact ⟨undef, fun l d e1 e2 => absurd ⟨l, d, e1, e2⟩ hx⟩
      refine ⟨?_, fun p m c' he hlt => ?_⟩
      · rw [show g'.rv k' = g.rv k' from rfl, h1]
        refine .sl sz bs es (some ⟨g.blk k', 0, none⟩) c (fun i j => Classical.choose (hch i j)) h2 h5 h6 (fun i j l d e1 e2 => ⟨_, rfl, ?_, ?_⟩) fun i j l d e1 e2 => (Classical.choose_spec (hch i j) l d e1 e2).2.mono hkp
        · rw [add_blk]; exact .inr ⟨rfl, by simpa using hcell i j l d e1 e2⟩
        · rw [add_blk, cell_blk h3]
          simpa using (Classical.choose_spec (hch i j) l d e1 e2).1
      · rw [show g'.rv k' = g.rv k' from rfl, h1] at he
        cases he
        refine ⟨rfl, ⟨arr, h3, h4⟩, fun x hx => ?_⟩
        rcases hx with hx | hx
        · exact absurd hx (h8 x)
        · exact hx.2
    · rw [if_neg hk] at hq
      refine ObOK.mono hkp hle rfl (fun ha => ⟨rfl, fun x hx => ?_⟩) (hR.obs k' q hq)
      rcases hx with hx | hx
      · exact hx
      · exact absurd hx.1 (hne k' q hk hq ha)
  · have key : ∀ k' q, (σ.frz k ty sz bs es).ob k' = some q → Active g' k' q → ∃ q', σ.ob k' = some q' ∧ Active g k' q' := fun k' q e ha => by
      simp only [St.frz] at e
      by_cases hk : k' = k
      · subst hk; exact ⟨_, h, trivial⟩
      · rw [if_neg hk] at e; exact ⟨q, e, (hact k' q).1 ha⟩
    obtain ⟨q1', f1, f2⟩ := key k1 q1 e1 a1
    obtain ⟨q2', f3, f4⟩ := key k2 q2 e2 a2
    exact hR.sep k1 k2 q1' q2' f1 f3 f2 f4 hb
  · rcases hx with hx | hx
    · exact hR.wok b x hx
    · rw [hx.1]; exact hblk
  · have hf := hR.frame b hb hm
    refine ⟨hf.1, fun x => ⟨fun hx => ?_, fun hx => .inl ((hf.2 x).2 hx)⟩⟩
    rcases hx with hx | hx
    · exact (hf.2 x).1 hx
    · exfalso
      rcases hR.loc k _ h trivial with h' | h'
      · rw [← hx.1] at h'; exact hm h'
      · rw [← hx.1] at h'; omega
  · simp only [St.frz] at hq
    by_cases hk : k' = k
    · subst hk; exact hR.loc k' _ h trivial
    · rw [if_neg hk] at hq; exact hR.loc k' q hq ((hact k' q).1 ha)

def SEx.up : SEx → Exit
  | .normal => .normal
  | .exit id => .exit id
  | .ret => .ret

theorem W_sound {base : Nat} : ∀ (sc : SCode) (c : Code) (σ : St) (Q : SEx → St → Prop) (R : Exit → Act → World → Prop), okCode P n sc c = true → W P base sc σ Q →
    (∀ e σ' g a w, Q e σ' → Rel I n σ' g a w → R e.up a w) → ∀ g a w, Rel I n σ g a w → c.wp P R a w := by
  intro sc
  induction sc with
  | skip =>
    intro c σ Q R hok hW hQ g a w hR
    cases c <;> simp only [okCode, Bool.false_eq_true] at hok
    exact wp_skip (hQ .normal _ _ _ _ hW hR)
  | reg l =>
    intro c σ Q R hok hW hQ g a w hR
    simp only [okCode] at hok
    split at hok
    · rename_i ops
      refine wp_region ?_
      have hl := okOps_len hok
      have : List.range ops.size = List.range' 0 l.length := by rw [List.range_eq_range']; simp at hl; rw [hl]
      rw [this]
      exact text2 (pre := []) hok (fun σ g a w h hR' => hQ .normal _ _ _ _ h hR') (by simp) hW hR
    · cases hok
  | dreg anc l =>
    intro c σ Q R hok hW hQ g a w hR
    simp only [okCode] at hok
    split at hok
    · rename_i ops
      simp only [Bool.and_eq_true] at hok
      obtain ⟨⟨⟨h0, h1⟩, h2⟩, h3⟩ := hok
      obtain ⟨tr, σ', h4, h5, h6⟩ := WD_tr (pre := []) (tr0 := []) hW
      have hl := okOps_len h1
      simp at hl
      have hrange : List.range' 0 l.length = List.range l.length := by rw [List.range_eq_range']
      have ht : Tr P base l (List.range l.length) σ tr σ' := by rw [← hrange]; simpa using h4
      refine wp_region_any h0 ?_
      refine draw_sound (σ' := σ') h1 (okAnc_spec h2) (fun a w g hR' => hQ .normal _ _ _ _ (h6 fun s => ⟨_, _, _, hR'.slots s⟩) hR') ops.size _ (List.range l.length) σ tr g a _ (by simp) (by simp [hl]) (fun j => ?_) List.pairwise_lt_range ht
        (fine_pairs ht rfl h3 (by simpa using h5)) (fun j o hj hlj => ?_) (hR.drew _)
      · simp [Array.getD, hl]
      · exfalso
        simp [listedB, Array.getD] at hlj
    · cases hok
  | seq x y ihx ihy =>
    intro c σ Q R hok hW hQ g a w hR
    simp only [okCode] at hok
    split at hok
    · rename_i hf
      cases x <;> simp [isFrz] at hf
      rename_i k
      obtain ⟨ty, sz, bs, es, h1, h2⟩ := hW
      obtain ⟨g', hR'⟩ := frz_sound hR h1
      exact ihy c _ Q R hok h2 hQ g' a w hR'
    · split at hok
      · rename_i x' y'
        simp only [Bool.and_eq_true] at hok
        refine wp_seq (ihx x' σ _ _ hok.1 hW (fun e σ' g a w h hR' => ?_) g a w hR)
        cases e with
        | normal => exact ihy y' σ' Q R hok.2 h hQ g a w hR'
        | exit id => exact hQ _ _ _ _ _ h hR'
        | ret => exact hQ _ _ _ _ _ h hR'
      · cases hok
  | cond c' x y ihx ihy =>
    intro c σ Q R hok hW hQ g a w hR
    simp only [okCode] at hok
    split at hok
    · rename_i d x' y'
      simp only [Bool.and_eq_true] at hok
      obtain ⟨⟨h1, h2⟩, h3⟩ := hok
      obtain ⟨q1, t, q2, q3, q4⟩ := hW
      have hv := opd hR h1 q1
      rw [q2] at hv
      have hb := RV2_v hv
      exact wp_cond_split hb (fun ht => ihx x' σ Q R h2 (q3 ht) hQ g a w hR) (fun ht => ihy y' σ Q R h3 (q4 ht) hQ g a w hR)
    · cases hok
  | block id x ih =>
    intro c σ Q R hok hW hQ g a w hR
    simp only [okCode] at hok
    split at hok
    · rename_i id' x'
      simp only [Bool.and_eq_true, decide_eq_true_eq] at hok
      obtain ⟨rfl, h1⟩ := hok
      refine wp_block (ih x' σ _ _ h1 hW (fun e σ' g a w h hR' => ?_) g a w hR)
      cases e with
      | normal => exact hQ _ _ _ _ _ h hR'
      | exit id =>
        simp only [onBlock] at h
        simp only [SEx.up, Exit.inBlock]
        split
        · rename_i hid; rw [if_pos hid] at h; exact hQ .normal _ _ _ _ h hR'
        · rename_i hid; rw [if_neg hid] at h; exact hQ (.exit id) _ _ _ _ h hR'
      | ret => exact hQ _ _ _ _ _ h hR'
    · cases hok
  | loop x ih =>
    intro c σ Q R hok hW hQ g a w hR
    simp only [okCode] at hok
    split at hok
    · rename_i x'
      obtain ⟨J, m, h0, hr⟩ := hW
      refine wp_loop_ghost (fun k a w => ∃ σ g, J k σ ∧ Rel I n σ g a w) m ⟨σ, g, h0, hR⟩ fun k a w ⟨σ1, g1, hJ, hR1⟩ => ?_
      refine ih x' σ1 _ _ hok (hr k σ1 hJ) (fun e σ' g a w h hR' => ?_) g1 a w hR1
      cases e with
      | normal =>
        obtain ⟨k', hk, hJ'⟩ := h
        exact ⟨k', hk, σ', g, hJ', hR'⟩
      | exit id => exact hQ _ _ _ _ _ h hR'
      | ret => exact hQ _ _ _ _ _ h hR'
    · cases hok
  | exit id =>
    intro c σ Q R hok hW hQ g a w hR
    cases c <;> simp only [okCode, Bool.false_eq_true, decide_eq_true_eq] at hok
    subst hok
    exact wp_exit (hQ (.exit _) _ _ _ _ hW hR)
  | ret =>
    intro c σ Q R hok hW hQ g a w hR
    cases c <;> simp only [okCode, Bool.false_eq_true] at hok
    exact wp_ret (hQ .ret _ _ _ _ hW hR)
  | frz k =>
    intro c σ Q R hok hW hQ g a w hR
    simp [okCode] at hok

end Go.Abs
