/- THIS TEXT PROVES WHAT SOME FUNCTIONS OF THE PROGRAM COMPUTE, IN THE CALCULUS: for every argument that is told. -/
import Derived.Test.YtmnjbnkenfefaaaF3
import Derived.Test.YtmnjbnkenfefaaaF27
set_option linter.unusedVariables false
set_option linter.unusedSimpArgs false
namespace Go.Abs
open Go.Proofs

abbrev uw (n : Int) : Int := IntKind.wrap .u64 n
theorem uw_pos (n : Int) : 0 ≤ uw n := by
  simp only [uw, IntKind.wrap, IntKind.bits, IntKind.signed, Bool.false_and]
  exact Int.emod_nonneg _ (by decide)
theorem umod (n : Int) {m : Int} (hm : 0 < m) (hm2 : m ≤ 1000) : 0 ≤ (uw n).tmod m ∧ (uw n).tmod m < m ∧ IntKind.wrap .i64 ((uw n).tmod m) = (uw n).tmod m := by
  have h1 := Int.tmod_nonneg m (uw_pos n)
  have h2 := Int.tmod_lt_of_pos (uw n) hm
  exact ⟨h1, h2, wrap_id (by omega) (by omega)⟩

theorem kid_check {kk n : Int} {a b : T} (ha : a.count ≤ 1048576) (hb : b.count ≤ 1048576) (h : (T.mk kk n [a, b]).check = 0) : a.check = 0 ∧ b.check = 0 := by
  have hc : (T.mk kk n [a, b]).count < 4611686018427387904 := by simp [T.count, T.countL]; omega
  have h1 := size_count _ hc
  have h2 := size_count a (by omega)
  have h3 := size_count b (by omega)
  have d1 := depth_kid (k := kk) (n := n) (ts := [a, b]) (t := a) (by simp) hc
  have d2 := depth_kid (k := kk) (n := n) (ts := [a, b]) (t := b) (by simp) hc
  have hf : (T.mk kk n [a, b]).formed = true → a.formed = true ∧ b.formed = true := by
    simp [T.formed, T.formedL]
  simp only [T.count, T.countL] at h1
  simp only [T.check] at h ⊢
  by_cases c1 : 6000 < (T.mk kk n [a, b]).size
  · simp [c1] at h
  · by_cases c2 : 200 < (T.mk kk n [a, b]).depth
    · simp [c1, c2] at h
    · by_cases c3 : (T.mk kk n [a, b]).formed = true
      · obtain ⟨f1, f2⟩ := hf c3
        have e1 : ¬ 6000 < a.size := by omega
        have e2 : ¬ 6000 < b.size := by omega
        have e3 : ¬ 200 < a.depth := by omega
        have e4 : ¬ 200 < b.depth := by omega
        simp [e1, e2, e3, e4, f1, f2]
      · simp [c1, c2, c3] at h

theorem two_scope {kk v : Int} {a b : T} (ha : a.count ≤ 1048576) (hb : b.count ≤ 1048576) (h : (T.mk kk 0 [a, b]).check = 0) (h0 : 0 ≤ v) (h1 : v < 10) (h2 : kk ≠ 1 ∧ kk ≠ 2 ∧ kk ≠ 3) :
    (T.mk kk 0 [a, b]).scope v 65536 = (a.scope v 65536 && b.scope (IntKind.wrap .i64 (v + bindsOf kk 1)) 65536) := by
  obtain ⟨c1, c2⟩ := kid_check ha hb h
  have hb1 : 0 ≤ bindsOf kk 1 ∧ bindsOf kk 1 ≤ 1 := by simp only [bindsOf]; split <;> omega
  have w1 : IntKind.wrap .i64 (v + bindsOf kk 1) = v + bindsOf kk 1 := wrap_id (by omega) (by omega)
  have hb0 : bindsOf kk 0 = 0 := by simp [bindsOf]
  have w0 : IntKind.wrap .i64 (v + bindsOf kk 0) = v := by rw [hb0, Int.add_zero]; exact wrap_id (by omega) (by omega)
  have m1 : best2 false v 65536 = v := by simp only [best2]; simp; omega
  have m2 : best2 false (v + bindsOf kk 1) 65536 = v + bindsOf kk 1 := by simp only [best2]; simp; omega
  have g1 : 0 ≤ v + bindsOf kk 1 := by omega
  simp [T.scope, h, c1, c2, h0, w1, g1, m1, m2, T.within, h2, T.withinL, w0]

theorem fn6 (a b : T) (k vars : Int) (ha : a.count ≤ 1048576) (hb : b.count ≤ 1048576) : Fn Try.prog 6 [tm a, tm b, ib k, ib vars] (bb true) := by
  refine fn_of (base := 6000) ok6 rfl fun σ h0 hr => ?_
  have s0 := h0 0
  have s1 := h0 1
  have s2 : σ.sl 2 = ib k := h0 2
  have s3 : σ.sl 3 = ib vars := h0 3
  rw [slots0] at s0
  rw [slots1] at s1
  simp only [tm, ib] at s0 s1 s2 s3
  clear h0 hr
  obtain ⟨v1, v2, v3⟩ := umod vars (m := 10) (by omega) (by omega)
  obtain ⟨k1, k2, k3⟩ := umod k (m := 5) (by omega) (by omega)
  unfold c6
  simp [s0, s1, room]
  refine ⟨⟨fun x hx => cells_isD' _ x hx, fun x hx => cells_isD' _ x hx⟩, ?_⟩
  refine ECall.fn (fn17 [a, b]) (by simp [tms]) (by simp) rfl fun _ => ?_
  simp [bb]
  refine ⟨fun hh => by simp [r6, hh], fun hh => ?_⟩
  simp [hh, s3]
  refine W_dregE 11 6009 ?_
  obtain ⟨kk, hk, hget⟩ : ∃ kk : Int, (kk ≠ 1 ∧ kk ≠ 2 ∧ kk ≠ 3) ∧ ([[.v (.int .i64 4)], [.v (.int .i64 5)], [.v (.int .i64 7)], [.v (.int .i64 6)], [.v (.int .i64 12)]] : List (List Cell))[((uw k).tmod 5).toNat]?.getD [] = [.v (.int .i64 kk)] := by
    have h5 : (uw k).tmod 5 = 0 ∨ (uw k).tmod 5 = 1 ∨ (uw k).tmod 5 = 2 ∨ (uw k).tmod 5 = 3 ∨ (uw k).tmod 5 = 4 := by omega
    rcases h5 with h | h | h | h | h <;> rw [h]
    · exact ⟨4, by omega, rfl⟩
    · exact ⟨5, by omega, rfl⟩
    · exact ⟨7, by omega, rfl⟩
    · exact ⟨6, by omega, rfl⟩
    · exact ⟨12, by omega, rfl⟩
  have hlt : ((uw k).tmod 5).toNat < ([[.v (.int .i64 4)], [.v (.int .i64 5)], [.v (.int .i64 7)], [.v (.int .i64 6)], [.v (.int .i64 12)]] : List (List Cell)).length := by
    show ((uw k).tmod 5).toNat < 5
    omega
  have hget' : ([[.v (.int .i64 4)], [.v (.int .i64 5)], [.v (.int .i64 7)], [.v (.int .i64 6)], [.v (.int .i64 12)]] : List (List Cell))[((uw k).tmod 5).toNat]'hlt = [.v (.int .i64 kk)] := by
    rw [List.getElem?_eq_getElem hlt] at hget
    exact hget
  simp [s2, SOp.args, k1, k2, k3, v3, hget', room]
  refine ⟨⟨fun x hx => cells_isD' _ x hx, fun x hx => cells_isD' _ x hx⟩, ?_⟩
  refine FCall.fn (fn25 kk [a, b]) (by simp [ib, tms]) (by simp) (by simp [tm]) (by simp) (by simp) ?_
  simp [tm]
  refine ⟨rfl, realC_n ?_⟩
  simp
  refine ECall.fn (fn22 (.mk kk 0 [a, b])) (by simp [tm]) (by simp) rfl fun _ => ?_
  simp [ib]
  refine ⟨fun hc => ?_, fun hc => ?_⟩
  · simp [hc]
    refine ECall.fn fn23 (by simp) (by simp) rfl fun _ => ?_
    simp [bb, r6]
  · simp [hc]
    refine W_dregA ?_
    simp
    refine CallA.fn (fn30 a ((uw vars).tmod 10) 65536) (by simp [tm, ib, v3]) (by simp) rfl ?_
    simp [bb, cells_mk]
    refine GCallA.fn (fun _ => fn31 kk 1) (by simp [ib]) (by simp) rfl ?_
    simp [ib]
    refine GCallA.fn (fun _ => fn30 b (IntKind.wrap .i64 ((uw vars).tmod 10 + bindsOf kk 1)) 65536) (by simp [tm, ib, v3]) (by simp) rfl ?_
    simp [bb]
    refine realC_n ?_
    simp
    refine W_dregA ?_
    simp
    refine CallA.fn (fn30 (.mk kk 0 [a, b]) ((uw vars).tmod 10) 65536) (by simp [tm, ib, v3, cells_mk]) (by simp) rfl ?_
    rw [two_scope ha hb hc v1 v2 hk]
    simp [bb]
    refine GCallA.fn (fun _ => fn19 (.mk kk 0 [a, b])) (by simp [tm, cells_mk]) (by simp) (by simp [tm]) ?_
    simp [tm]
    have c18 := fn18 (.mk kk 0 [a, b]) (.mk kk 0 [a, b])
    rw [eqb_self] at c18
    refine GCallA.fn (fun _ => c18) (by simp [tm, cells_mk]) (by simp) rfl ?_
    simp [bb]
    refine GCallA.fn (fun _ => fn23) (by simp) (by simp) rfl ?_
    simp [bb]
    refine realC_n ?_
    simp [r6]
end Go.Abs
