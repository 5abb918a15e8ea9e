/- THIS TEXT TELLS SOME FUNCTIONS OF THE PROGRAM IN THE CALCULUS, PROVES BY THE KERNEL THAT WHAT IS TOLD IS THE LOADED CODE, AND PROVES WHAT THEY COMPUTE: for every argument that is told; the conditions stand in each theorem. -/
import Derived.Below
import Derived.Test.YtfgjannlepahgaaNaM0
set_option linter.unusedVariables false
set_option linter.unusedSimpArgs false
namespace Go.Abs
open Go.Proofs
def gAll (w:World):Gh:=⟨fun b _=>b < w.heap.size,fun _=>0,fun _=>.nilFunc,fun _=>0,w.heap.size⟩
theorem all_rel {N:Nat} {a:Act} {w:World} {sl:Nat → AV} (hz:a.tmps.size=N) (hd:a.defers=[]) (hsl:∀ s,RV (gAll w) w (sl s) (a.tmps.getD s undef)):Rel ⟨gAll w,w,fun _=>False,[]⟩ N ⟨sl,fun _=>none,fun _=>0⟩ (gAll w) a w:=
 {size:=hz,tags:=fun _=>rfl,slots:=hsl,defs:=hd,obs:=fun k q h=>(by cases h),sep:=fun k k' q q' h=>(by cases h),wok:=fun b o h=>h,os:=rfl,tape:=rfl,out:=rfl,grow:=Nat.le_refl _
  frame:=fun _ _ _=>⟨rfl,fun _=>Iff.rfl⟩,kp:=Kp.refl _ w,le:=Gh.Le.refl _,los:=⟨Nat.le_refl _,fun _ h=>h.elim⟩,loc:=fun k q h=>(by cases h) }
theorem ch_same {lo:Nat} {w w':World} (hlo:lo ≤ w.heap.size) (o1:w'.os=w.os) (o2:w'.tape=w.tape) (o3:w'.output=w.output) (hg:w.heap.size ≤ w'.heap.size) (hf:∀ b,b < w.heap.size → w'.heap[b]? = w.heap[b]?):IntCh lo w w':=
 ⟨o1,o2,o3,hg,fun b hb=>hf b (by omega),fun b arr ty hb=>⟨arr,by rw [hf b (Array.getElem?_eq_some_iff.1 hb).1];exact hb,rfl,fun j v hv=>.inl hv⟩⟩
theorem enters13:EntersF Try.prog 13:=(fn57 0 0).1
theorem spoil (t:T):∀ (k n:Int) (v:Value) (w:World) (lo:Nat),lo ≤ w.heap.size → Sh lo w t v →
  Calls Try.prog 13 #[.agg #[.int .i64 k,.int .i64 n,v]] w fun e w'=>(∃ r,e=.returned r) ∧ IntCh lo w w':=by
 induction t using T.ind with
 | h k0 n0 ts ih=>
 intro k n v w lo hlo hsh
 cases hsh with
 | nil _ _ a c=>
  refine ((fn57 k n).2 (gAll w) w #[.agg #[.int .i64 k,.int .i64 n,.slice a 0 c]] (fun b _ hb=>hb) ⟨Nat.le_refl _,fun b ⟨k,t,q,hq,_⟩=>by simp at hq⟩ ⟨⟨_,rfl,.v _ rfl,.v _ rfl,?_,trivial⟩,trivial⟩ ⟨fun k t q hq=>by simp at hq,fun k k' t t' q q' hq=>by simp at hq⟩).mono ?_
  ·exact .sl 3 40 [] a c (fun _ _=>undef) (Nat.zero_le _) (by simp [room]) (by simp) (by simp) (by simp)
  ·rintro e w' ⟨r,g',rfl,hp⟩
   refine ⟨⟨r,rfl⟩,ch_same hlo hp.os hp.tape hp.out hp.grow fun b hb=>(hp.frame b hb ?_).1⟩
   rintro ⟨k,t,q,hq,_⟩
   simp at hq
 | node _ _ _ bK ty arr xs ys zs hb hw hz hr h hk=>
  have hok:=ok57
  unfold okFn at hok
  split at hok
  case h_2=>cases hok
  rename_i fn hf
  split at hok
  case h_2=>cases hok
  rename_i c hbody
  simp only [Bool.and_eq_true,decide_eq_true_eq,Bool.not_eq_true'] at hok
  obtain ⟨⟨⟨⟨hn,hmn⟩,hcode⟩,hres⟩,hname⟩:=hok
  refine calls_of_wp hf hbody ?_
  have hbK:bK < w.heap.size:=(Array.getElem?_eq_some_iff.1 hw).1
  have hzs:∀ i,i < ts.length → (zs i).oneCell'=true:=fun i hi=>by
   obtain ⟨a,m,c,e⟩:=(hk i _ (List.getElem?_eq_getElem hi)).slice
   rw [e];rfl
  rw [c57_eq] at hcode
  refine W_pre (n:=28) (base:=57000) (I:=⟨gAll w,w,fun _=>False,[]⟩) (σ:=⟨fun s=>if s=0 then .agg [.v (.int .i64 k),.v (.int .i64 n),.v (.slice (some ⟨bK,0,none⟩) ts.length ts.length)] else .c .junk,fun _=>none,fun _=>0⟩) (g:=gAll w) rfl s57 (by simp [s57,isFrz]) hcode (sp_start rfl) ?_ ?_ (all_rel ?_ rfl fun s=>?_)
  ·intro σ1 g1 a1 w1 y' hq hR hy
   obtain ⟨s1,s2,o1⟩:=hq
   obtain ⟨vs,f1,f2,_⟩:=hR.obs 57001 _ o1
   have hvs:vs=#[.int .i64 k,.int .i64 n,.slice (some ⟨bK,0,none⟩) ts.length ts.length]:=by
    match hv:vs.toList,f2 with
    | [x,y,z],⟨r1,r2,r3,_⟩=>
     rw [← Array.toArray_toList (xs:=vs),hv,rd_v r1,rd_v r2,rd_v r3]
    | [],f=>exact f.elim
    | [_],f=>exact f.2.elim
    | [_,_],f=>exact f.2.2.elim
    | _ :: _ :: _ :: _ :: _,f=>exact f.2.2.2.elim
   subst hvs
   have hb1:w.heap.size ≤ g1.blk 57001:=by
    rcases hR.loc 57001 _ o1 trivial with h | h
    ·exact h.elim
    ·exact h
   have hA:SpA 0 (g1.blk 57001) a1:=⟨hR.size,hR.defs,by
    have:=hR.slots 1
    rw [s1] at this
    rw [(this (by simp)).2.2 (hR.tags _).symm];rfl,by
    have:=hR.slots 2
    rw [s2] at this
    exact RV2_v this⟩
   have hfr:∀ b,b < w.heap.size → w1.heap[b]? = w.heap[b]?:=fun b hb=>(hR.frame b hb (fun h=>h)).1
   have hch:IntCh lo w w1:=ch_same hlo hR.os hR.tape hR.out hR.grow hfr
   have hM:SpM w1 (g1.blk 57001) bK ty ts.length k n xs ys zs:=⟨f1,arr,by rw [hfr bK hbK];exact hw,hz,fun i hi=>h i _ (List.getElem?_eq_getElem hi)⟩
   generalize g1.blk 57001=b1 at hA hM hb1
   have hne:b1 ≠ bK:=by omega
   clear hR s1 s2 o1 f1 f2 hfr
   obtain ⟨x1,rfl,hy1⟩:=ok_block hy
   obtain ⟨x2,rfl,hy2⟩:=ok_loop hy1
   rw [c57b0_eq] at hy2
   obtain ⟨xh,x3,rfl,okh,hy3⟩:=ok_seq hy2 (by rfl) (by rfl)
   obtain ⟨x4,xe,rfl,hy4,oke⟩:=ok_seq hy3 (by rfl) (by rfl)
   obtain ⟨x5,rfl,hy5⟩:=ok_block hy4
   obtain ⟨x6,xd,rfl,hy6,okd⟩:=ok_seq hy5 (by rfl) (by rfl)
   obtain ⟨rid,ops,rfl,okm⟩:=ok_reg hy6
   refine wp_block (wp_loop_ghost (fun m a w'=>∃ (i:Nat) (k n:Int) (xs ys:Nat → Int),i + m=ts.length ∧ SpM w' b1 bK ty ts.length k n xs ys zs ∧ SpA i b1 a ∧ IntCh lo w w') ts.length ⟨0,k,n,xs,ys,by omega,hM,hA,hch⟩ ?_)
   clear hM hA hch h hw hz arr
   rintro m a2 w2 ⟨i,k,n,xs,ys,hm,hM,hA,hch⟩
   have hR:=sp_rel hM hA hne hr hzs
   refine wp_seq (W_sound (base:=57000) h57 xh _ (Qh57 k n ty (spE ts.length xs ys zs) i) _ okh (sp_head ⟨rfl,rfl,rfl,rfl,rfl,rfl⟩) (fun e σ3 g3 a3 w3 hq hR3=>?_) _ _ _ hR)
   cases e with
   | ret=>exact hq.elim
   | exit id=>
    obtain ⟨rfl,_,hq⟩:=hq
    obtain ⟨hM3,hA3,hf3⟩:=sp_back hR3 hq
    have hc3:=hch.trans (sp_ch hM hM3 (lo:=lo) (by omega) hb hf3 hR3.os hR3.tape hR3.out hR3.grow)
    have hr0:fn.results=#[]:=by
     have:r57=[]:=rfl
     rw [this] at hres
     cases hl:fn.results.toList with
     | nil=>rw [← Array.toArray_toList (xs:=fn.results),hl]
     | cons x l=>rw [hl] at hres;simp [okR] at hres
    exact ⟨hA3.defs,.tuple #[],by simp [results,hr0],⟨_,rfl⟩,hc3⟩
   | normal=>
    obtain ⟨hi,hq⟩:=hq
    rw [spE_len] at hi
    obtain ⟨hM3,hA3,hf3⟩:=sp_back hR3 hq
    have hc3:=hch.trans (sp_ch hM hM3 (lo:=lo) (by omega) hb hf3 hR3.os hR3.tape hR3.out hR3.grow)
    have hR3:=sp_rel hM3 hA3 hne hr hzs
    refine wp_seq (wp_block (wp_seq (wp_region ?_)))
    have hsz:ops.size=6:=by have:=okOps_len okm;simpa [m57] using this
    have hrange:List.range ops.size=List.range' ([]:List SO).length m57.length ++ [5]:=by rw [hsz];rfl
    rw [hrange]
    refine text3 (base:=57000) (sos:=m57 ++ [k57]) (post:=[k57]) okm (fun σ4 g4 a4 w4 hq4 hR4=>?_) (by simp) (sp_mid hi ⟨rfl,rfl,rfl,rfl,rfl,rfl⟩) hR3
    obtain ⟨hq4,s14⟩:=hq4
    obtain ⟨hM4,hA4,hf4⟩:=sp_back hR4 hq4
    have hc4:=hc3.trans (sp_ch hM3 hM4 (lo:=lo) (by omega) hb hf4 hR4.os hR4.tape hR4.out hR4.grow)
    obtain ⟨vs,e14,hvs⟩:=opd_tN hR4 s14
    have hvs:vs=#[.int .i64 (xs i),.int .i64 (ys i),zs i]:=by
     match hv:vs.toList,hvs with
     | [x,y,z],⟨r1,r2,r3,_⟩=>
      rw [← Array.toArray_toList (xs:=vs),hv,rd_v r1,rd_v r2,rd_v r3]
     | [],f=>exact f.elim
     | [_],f=>exact f.2.elim
     | [_,_],f=>exact f.2.2.elim
     | _ :: _ :: _ :: _ :: _,f=>exact f.2.2.2.elim
    subst hvs
    obtain ⟨u,hu⟩:=at_of hi
    have hshu:Sh lo w4 u (zs i):=(hk i u hu).mono hc4
    rw [wpOps_cons]
    refine call_op (sos:=m57 ++ [k57]) (f:=13) (d:=15) (s:=14) okm rfl enters13 ?_
    rw [e14]
    refine (ih u (List.mem_of_getElem? hu) (xs i) (ys i) (zs i) w4 lo (Nat.le_trans hlo hc4.grow) hshu).mono ?_
    rintro e w5 ⟨⟨r,rfl⟩,hch5⟩
    refine ⟨r,rfl,?_⟩
    have hc5:=hc4.trans hch5
    have gp:∀ s,(a4.put (some 15) r).tmps.getD s undef=if s=15 then r else a4.tmps.getD s undef:=fun s=>Act.getD_put (by rw [hA4.size];omega) s
    have hA5:SpA i b1 (a4.put (some 15) r):=⟨by simp [Act.put,hA4.size],hA4.defs,by rw [gp,if_neg (by omega)];exact hA4.t1,by rw [gp,if_neg (by omega)];exact hA4.t2⟩
    obtain ⟨k5,n5,xs5,ys5,hM5⟩:∃ k n xs ys,SpM w5 b1 bK ty ts.length k n xs ys zs:=sp_after hch5 hM4 fun j hj=>(hk j _ (List.getElem?_eq_getElem hj)).slice
    have hR5:=sp_rel hM5 hA5 hne hr hzs
    refine W_sound (base:=57000) d57 xd _ _ _ okd (sp_draw hi ⟨rfl,rfl,rfl,rfl,rfl,rfl⟩) (fun e σ6 g6 a6 w6 hq6 hR6=>?_) _ _ _ hR5
    cases e with
    | exit id=>exact hq6.elim
    | ret=>exact hq6.elim
    | normal=>
    obtain ⟨hM6,hA6,hf6⟩:=sp_back hR6 hq6
    have hc6:=hc5.trans (sp_ch hM5 hM6 (lo:=lo) (by omega) hb hf6 hR6.os hR6.tape hR6.out hR6.grow)
    have hR6:=sp_rel hM6 hA6 hne hr hzs
    have hroom:ts.length ≤ 140737488355328:=by simp only [room] at hr;omega
    refine W_sound (base:=57000) e57 xe _ _ _ oke (sp_inc (by omega) ⟨rfl,rfl,rfl,rfl,rfl,rfl⟩) (fun e σ7 g7 a7 w7 hq7 hR7=>?_) _ _ _ hR6
    cases e with
    | exit id=>exact hq7.elim
    | ret=>exact hq7.elim
    | normal=>
    obtain ⟨hM7,hA7,hf7⟩:=sp_back hR7 hq7
    have hc7:=hc6.trans (sp_ch hM6 hM7 (lo:=lo) (by omega) hb hf7 hR7.os hR7.tape hR7.out hR7.grow)
    exact ⟨m - 1,by omega,i + 1,_,_,_,_,by omega,hM7,hA7,hc7⟩
  ·intro e σ' g' a' w' hne hq _
   cases e with
   | normal=>exact absurd rfl hne
   | exit id=>exact hq.elim
   | ret=>exact hq.elim
  ·simp [hn]
  ·by_cases hs:s=0
   ·subst hs
    have e0:∀ (x:Value) (m:Nat),(#[x] ++ Array.replicate m undef).getD 0 undef=x:=fun x m=>by rw [Array.getD_eq_getD_getElem?,Array.getElem?_append_left (by simp)];rfl
    simp only [if_true]
    rw [e0]
    exact ⟨_,rfl,.v _ rfl,.v _ rfl,.v _ rfl,trivial⟩
   ·simp only [hs,if_false]
    exact fun h=>absurd rfl h
end Go.Abs

namespace Go.Abs
open Go.Proofs
def p10A0:SCode:=.reg
   [⟨some 4,none,.box 24 (.t 0)⟩,
    ⟨some 8,none,.mv (.k (.bool false))⟩]
def p10A1:SCode:=.seq (.reg
    [⟨some 18,none,.ldn 24 3 (.t 4)⟩,
     ⟨some 19,none,.lit 24 3 40 [.t 18]⟩,
     ⟨some 20,none,.call (.f 4) [.t 19]⟩])
  (.cond (.t 20)
   (.seq (.reg
     [⟨some 8,none,.mv (.k (.bool true))⟩])
   (.ret))
   (.skip))
def p10A2:SCode:=.reg
   [⟨some 21,none,.ldn 24 3 (.t 4)⟩,
    ⟨some 22,none,.call (.f 5) [.t 21]⟩,
    ⟨some 9,none,.alloc 24 [.v (.int .i64 0),.v (.int .i64 0),.cap 3 40 []]⟩,
    ⟨none,none,.stn 24 3 (.t 9) (.t 22)⟩]
def p10B3:SCode:=.reg
   [⟨some 24,none,.ldn 24 3 (.t 9)⟩,
    ⟨some 25,none,.mv (.t 1)⟩,
    ⟨some 26,none,.mv (.t 2)⟩,
    ⟨some 27,none,.call (.f 6) [.t 24,.t 25,.t 26]⟩,
    ⟨some 23,none,.mv (.t 27)⟩,
    ⟨some 28,none,.ext (.t 23) 0⟩,
    ⟨some 29,none,.ext (.t 23) 1⟩,
    ⟨some 10,none,.alloc 24 [.v (.int .i64 0),.v (.int .i64 0),.cap 3 40 []]⟩,
    ⟨none,none,.stn 24 3 (.t 10) (.t 28)⟩,
    ⟨some 11,none,.mv (.t 29)⟩]
def p10B4:SCode:=.reg
   [⟨some 31,none,.ldn 24 3 (.t 4)⟩,
    ⟨some 32,none,.mv (.t 1)⟩,
    ⟨some 33,none,.mv (.t 2)⟩,
    ⟨some 34,none,.call (.f 7) [.t 31,.t 32,.t 33]⟩,
    ⟨some 30,none,.mv (.t 34)⟩,
    ⟨some 35,none,.ext (.t 30) 0⟩,
    ⟨some 36,none,.ext (.t 30) 1⟩,
    ⟨some 12,none,.alloc 24 [.v (.int .i64 0),.v (.int .i64 0),.cap 3 40 []]⟩,
    ⟨none,none,.stn 24 3 (.t 12) (.t 35)⟩,
    ⟨some 13,none,.mv (.t 36)⟩]
def p10B5:SCode:=.reg
   [⟨some 38,none,.ldn 24 3 (.t 9)⟩,
    ⟨some 39,none,.mv (.t 3)⟩,
    ⟨some 40,none,.call (.f 8) [.t 38,.t 39]⟩,
    ⟨some 37,none,.mv (.t 40)⟩,
    ⟨some 41,none,.ext (.t 37) 0⟩,
    ⟨some 42,none,.ext (.t 37) 1⟩,
    ⟨some 14,none,.alloc 24 [.v (.int .i64 0),.v (.int .i64 0),.cap 3 40 []]⟩,
    ⟨none,none,.stn 24 3 (.t 14) (.t 41)⟩,
    ⟨some 15,none,.mv (.t 42)⟩]
def p10B6:SCode:=.reg
   [⟨some 44,none,.ldn 24 3 (.t 4)⟩,
    ⟨some 45,none,.mv (.t 3)⟩,
    ⟨some 46,none,.call (.f 9) [.t 44,.t 45]⟩,
    ⟨some 43,none,.mv (.t 46)⟩,
    ⟨some 47,none,.ext (.t 43) 0⟩,
    ⟨some 48,none,.ext (.t 43) 1⟩,
    ⟨some 16,none,.alloc 24 [.v (.int .i64 0),.v (.int .i64 0),.cap 3 40 []]⟩,
    ⟨none,none,.stn 24 3 (.t 16) (.t 47)⟩,
    ⟨some 17,none,.mv (.t 48)⟩]
def p10B7:SCode:=.seq (.dreg [0,0,3,7,15,15,63,127,255,511,1023,1023,4095,8191,16383,32767,32767,131071,262143,524287,1048575,2097151,2097151,8388607,2097151,2097151,67108863,134217727,268435455,536870911,1073741823,1073741823,4294967295,8589934591,17179869183]
    [⟨some 49,none,.mv (.t 11)⟩,
     ⟨some 50,none,.mv (.t 13)⟩,
     ⟨some 51,none,.bin .neq (.t 49) (.t 50)⟩,
     ⟨some 52,none,.mv (.t 51)⟩,
     ⟨some 53,some (52,false),.ldn 24 3 (.t 10)⟩,
     ⟨some 54,some (52,false),.ldn 24 3 (.t 12)⟩,
     ⟨some 55,some (52,false),.call (.f 10) [.t 53,.t 54]⟩,
     ⟨some 56,some (52,false),.not (.t 55)⟩,
     ⟨some 57,none,.pick (.t 52) (.k (.bool true)) (.t 56)⟩,
     ⟨some 58,none,.mv (.t 57)⟩,
     ⟨some 59,some (58,false),.mv (.t 15)⟩,
     ⟨some 60,some (58,false),.mv (.t 17)⟩,
     ⟨some 61,some (58,false),.beq true 4 (.t 59) (.t 60)⟩,
     ⟨some 62,none,.pick (.t 58) (.k (.bool true)) (.t 61)⟩,
     ⟨some 63,none,.mv (.t 62)⟩,
     ⟨some 64,some (63,false),.ldn 24 3 (.t 14)⟩,
     ⟨some 65,some (63,false),.ldn 24 3 (.t 16)⟩,
     ⟨some 66,some (63,false),.call (.f 10) [.t 64,.t 65]⟩,
     ⟨some 67,some (63,false),.not (.t 66)⟩,
     ⟨some 68,none,.pick (.t 63) (.k (.bool true)) (.t 67)⟩,
     ⟨some 69,none,.mv (.t 68)⟩,
     ⟨some 70,some (69,false),.ldn 24 3 (.t 9)⟩,
     ⟨some 71,some (69,false),.mv (.t 3)⟩,
     ⟨some 72,some (69,false),.call (.f 11) [.t 70,.t 71]⟩,
     ⟨some 73,some (69,false),.ldn 24 3 (.t 4)⟩,
     ⟨some 74,some (69,false),.mv (.t 3)⟩,
     ⟨some 75,some (69,false),.call (.f 12) [.t 73,.t 74]⟩,
     ⟨some 76,some (69,false),.bin .neq (.t 72) (.t 75)⟩,
     ⟨some 77,none,.pick (.t 69) (.k (.bool true)) (.t 76)⟩,
     ⟨some 78,none,.mv (.t 77)⟩,
     ⟨some 79,some (78,false),.ldn 24 3 (.t 9)⟩,
     ⟨some 80,some (78,false),.ldn 24 3 (.t 4)⟩,
     ⟨some 81,some (78,false),.call (.f 10) [.t 79,.t 80]⟩,
     ⟨some 82,some (78,false),.not (.t 81)⟩,
     ⟨some 83,none,.pick (.t 78) (.k (.bool true)) (.t 82)⟩])
  (.cond (.t 83)
   (.seq (.reg
     [⟨some 8,none,.mv (.k (.bool false))⟩])
   (.ret))
   (.skip))
def p10S8:SCode:=.reg
   [⟨some 84,none,.ldn 24 3 (.t 10)⟩,
    ⟨some 85,none,.call (.f 13) [.t 84]⟩]
def p10S9:SCode:=.reg
   [⟨some 86,none,.ldn 24 3 (.t 14)⟩,
    ⟨some 87,none,.call (.f 13) [.t 86]⟩]
def p10E10:SCode:=.reg
   [⟨some 88,none,.ldn 24 3 (.t 9)⟩,
    ⟨some 89,none,.ldn 24 3 (.t 4)⟩,
    ⟨some 90,none,.call (.f 10) [.t 88,.t 89]⟩,
    ⟨some 91,none,.mv (.t 90)⟩,
    ⟨some 92,some (91,true),.call (.f 14) []⟩,
    ⟨some 93,none,.pick (.t 91) (.t 92) (.k (.bool false))⟩,
    ⟨some 8,none,.mv (.t 93)⟩]
def a10:List SCode:=[p10A0,p10A1,p10A2]
def b10:List SCode:=[p10B3,p10B4,p10B5,p10B6,p10B7]
theorem c10_eq:c10=pre a10 (pre b10 (.seq p10S8 (.seq p10S9 (.seq p10E10 .ret)))):=rfl
structure QA10 (t:T) (b f m:Int) (σ:St):Prop where
 s1:σ.sl 1=.c (.v (.int .i64 b))
 s2:σ.sl 2=.c (.v (.int .i64 f))
 s3:σ.sl 3=.c (.v (.int .i64 m))
 s4:σ.sl 4=.c (.ref 10004 (σ.tg 10004) 0)
 o4:σ.ob 10004=some (.box 24 t.cells)
 s9:σ.sl 9=.c (.ref 10009 (σ.tg 10009) 0)
 o9:σ.ob 10009=some (.box 24 t.cells)
def EA10 (t:T) (b f m:Int):SEx → St → Prop
 | .normal,σ=>QA10 t b f m σ
 | .ret,σ=>EndOK [] r10 (bb true) [] σ
 | .exit _,_=>False
@[simp] theorem EA10_n {t:T} {b f m:Int} {σ:St}:EA10 t b f m .normal σ=QA10 t b f m σ:=rfl
@[simp] theorem EA10_r {t:T} {b f m:Int} {σ:St}:EA10 t b f m .ret σ=EndOK [] r10 (bb true) [] σ:=rfl
theorem law_a (t:T) (b f m:Int) (σ:St) (s0:σ.sl 0=tm t) (s1:σ.sl 1=ib b) (s2:σ.sl 2=ib f) (s3:σ.sl 3=ib m):W Try.prog 10000 (pre a10 .skip) σ (EA10 t b f m):=by
 simp only [tm,ib] at s0 s1 s2 s3
 simp only [a10,pre,p10A0,p10A1,p10A2]
 simp [s0,s1,s2,s3,room]
 refine ⟨fun c hc=>cells_isD' t c hc,?_⟩
 refine ECall.fn (fn17 [t]) (by simp [tms]) (by simp) rfl fun _=>?_
 simp [bb]
 refine ⟨fun hh=>?_,fun hh=>?_⟩
 ·refine ⟨?_,?_,fun k t q h=>by simp at h⟩ <;> simp [r10,bb]
 ·refine ECall.fn (fn19 t) (by simp [tm]) (by simp) (by simp [tm]) fun _=>?_
  simp [tm]
  exact ⟨by simp [s1],by simp [s2],by simp [s3],by simp,by simp,by simp,by simp⟩
structure QB10 (t:T) (m:Int) (x u:T) (ad4 ad9:Addr) (σ:St):Prop where
 s4:σ.sl 4=.c (.elx ad4 t.cells)
 s9:σ.sl 9=.c (.elx ad9 t.cells)
 s10:σ.sl 10=.c (.ref 10010 (σ.tg 10010) 0)
 o10:σ.ob 10010=some (.box 24 x.ncells)
 s14:σ.sl 14=.c (.ref 10014 (σ.tg 10014) 0)
 o14:σ.ob 10014=some (.box 24 u.ncells)
theorem law_b (t:T) (b f m:Int) (hc:t.count ≤ 1048576) (ad4 ad9:Addr) (σ:St) (s1:σ.sl 1=ib b) (s2:σ.sl 2=ib f) (s3:σ.sl 3=ib m) (s4:σ.sl 4=.c (.elx ad4 t.cells)) (s9:σ.sl 9=.c (.elx ad9 t.cells)) :
  W Try.prog 10000 (pre b10 .skip) σ (only (QB10 t m (t.shift b f).1 (t.lower m).1 ad4 ad9)):=by
 simp only [ib] at s1 s2 s3
 have c49:=fn49n t b f
 have c53:=fn53 t b f
 rw [rshift_eq hc] at c53
 have c54:=fn54n t m
 have c55:=fn55 t m
 rw [rlower_eq hc] at c55
 have c52:=fn52 t m
 have c56:=fn56 t m
 rw [rcount_eq hc] at c56
 generalize (if 0 ≤ m ∧ m ≤ 65535 then t.cnt m 0 else 0)=q at c52 c56
 generalize t.shift b f=xe at c49 c53
 generalize t.lower m=uo at c54 c55
 obtain ⟨x,e⟩:=xe
 obtain ⟨u,ok⟩:=uo
 simp only at c49 c53 c54 c55 ⊢
 have e1:=fn45 x x
 rw [eqb_self] at e1
 have e1:Fn Try.prog 10 [tmn x,tm x] (bb true):=e1.weak ⟨tmn_weak x,Wk.refl _,trivial⟩
 have e2:=fn45 u u
 rw [eqb_self] at e2
 have e2:Fn Try.prog 10 [tmn u,tm u] (bb true):=e2.weak ⟨tmn_weak u,Wk.refl _,trivial⟩
 have e3:=fn45 t t
 rw [eqb_self] at e3
 simp only [b10,pre,p10B3,p10B4,p10B5,p10B6,p10B7]
 simp [s1,s2,s3,s4,s9]
 refine ECall.fn c49 (by simp [tm,ib]) (by simp) (by simp [tmn,ib,AV.keys2]) fun _=>?_
 simp [tmn,ib,s1,s2,s3,s4,s9]
 refine ECall.fn c53 (by simp [tm,ib]) (by simp) (by simp [tm,ib,AV.keys2]) fun _=>?_
 simp [tm,ib,s1,s2,s3,s4,s9]
 refine ECall.fn c54 (by simp [tm,ib]) (by simp) (by simp [tmn,bb,AV.keys2]) fun _=>?_
 simp [tmn,bb,s1,s2,s3,s4,s9]
 refine ECall.fn c55 (by simp [tm,ib]) (by simp) (by simp [tm,bb,AV.keys2]) fun _=>?_
 simp [tm,bb,s1,s2,s3,s4,s9]
 refine W_dregA ?_
 simp [s1,s2,s3,s4,s9]
 refine GCallA.fn (fun _=>e1) (by simp [tm,tmn]) (by simp) rfl ?_
 simp [bb,s1,s2,s3,s4,s9]
 refine GCallA.fn (fun _=>e2) (by simp [tm,tmn]) (by simp) rfl ?_
 simp [bb,s1,s2,s3,s4,s9]
 refine GCallA.fn (fun _=>c52) (by simp [tm,ib]) (by simp) rfl ?_
 simp [ib,s1,s2,s3,s4,s9]
 refine GCallA.fn (fun _=>c56) (by simp [tm,ib]) (by simp) rfl ?_
 simp [ib,s1,s2,s3,s4,s9]
 refine GCallA.fn (fun _=>e3) (by simp [tm]) (by simp) rfl ?_
 simp [bb,s1,s2,s3,s4,s9]
 refine realC_n ?_
 simp
 exact ⟨by simp [s4],by simp [s9],by simp,by simp,by simp,by simp⟩
theorem law_e (t:T) (ad4 ad9:Addr) (σ:St) (s4:σ.sl 4=.c (.elx ad4 t.cells)) (s9:σ.sl 9=.c (.elx ad9 t.cells)):W Try.prog 10000 (.seq p10E10 .ret) σ (onEnd [] r10 (bb true) []):=by
 have e3:=fn45 t t
 rw [eqb_self] at e3
 simp only [p10E10]
 simp [s4,s9]
 refine ECall.fn e3 (by simp [tm]) (by simp) rfl fun _=>?_
 simp [bb]
 refine GCall.fn (fun _=>fn50) (by simp) (by simp) rfl fun _=>?_
 simp [bb,r10]
end Go.Abs

namespace Go.Abs
open Go.Proofs
theorem kids_re {g g':Gh} {w w':World} (hL:∀ a x,Lies g w a x → Lies g' w' a x):∀ (t:T) (v:Value),RD g w (.sl 3 40 (t.kids.map T.cells)) v → RD g' w' (.sl 3 40 (t.kids.map T.cells)) v:=by
 refine T.ind fun k n ts ih v h=>?_
 simp only [kids_mk] at h ⊢
 cases h with
 | sl _ _ _ a c vs a1 a2 a3 a4 a5=>
  refine .sl 3 40 _ a c vs a1 a2 a3 (fun i j l d h1 h2=>?_) fun i j l d h1 h2=>?_
  ·obtain ⟨ad,e,hh⟩:=a4 i j l d h1 h2
   exact ⟨ad,e,hL _ _ hh⟩
  ·have h3:=a5 i j l d h1 h2
   rw [List.getElem?_map] at h1
   obtain ⟨u,hu,rfl⟩:=Option.map_eq_some_iff.1 h1
   rw [cells_eq] at h2
   match j with
   | 0=>simp at h2;subst h2;rw [rd_v h3];exact .v _ rfl
   | 1=>simp at h2;subst h2;rw [rd_v h3];exact .v _ rfl
   | 2=>simp at h2;subst h2;exact ih u (List.mem_of_getElem? hu) _ h3
   | j + 3=>simp at h2
theorem cells_re {g g':Gh} {w w':World} (hL:∀ a x,Lies g w a x → Lies g' w' a x) {t:T} {i:Nat} {d:Cell} {x:Value} (hd:t.cells[i]? = some d) (h:RD g w d x):RD g' w' d x:=by
 rw [cells_eq] at hd
 match i with
 | 0=>simp at hd;subst hd;rw [rd_v h];exact .v _ rfl
 | 1=>simp at hd;subst hd;rw [rd_v h];exact .v _ rfl
 | 2=>simp at hd;subst hd;exact kids_re hL t x h
 | i + 3=>simp at hd
theorem IntCh.le {lo lo':Nat} {w w':World} (h:IntCh lo w w') (hl:lo' ≤ lo):IntCh lo' w w':=⟨h.os,h.tape,h.out,h.grow,fun b hb=>h.low b (by omega),h.cells⟩
theorem Rel.ch {N lo:Nat} {σ:St} {g:Gh} {a:Act} {w w':World} {gg:Gh} (hR:Rel ⟨gg,w,fun _=>False,[]⟩ N σ g a w') (hlo:lo ≤ w.heap.size):IntCh lo w w':=
 ch_same hlo hR.os hR.tape hR.out hR.grow fun b hb=>(hR.frame b hb fun h=>h).1
theorem agg3 {g:Gh} {w:World} {x:T} {vs:List Value} (h:All2 (RC g w) x.ncells vs):∃ k n z,vs=[.int .i64 k,.int .i64 n,z] ∧ Sh g.lo w x z:=by
 rw [ncells_eq] at h
 match vs,h with
 | [a,b,c],⟨h1,h2,h3,_⟩=>exact ⟨x.kind,x.val,c,by rw [rd_v h1,rd_v h2],Sh.of x c (RC_nk h3)⟩
 | [],h=>exact h.elim
 | [_],h=>exact h.2.elim
 | [_,_],h=>exact h.2.2.elim
 | _ :: _ :: _ :: _ :: _,h=>exact h.2.2.2.elim
theorem box3 {lo b:Nat} {w w':World} {k n:Int} {z:Value} (hc:IntCh lo w w') (h:w.heap[b]? = some (.cells #[.int .i64 k,.int .i64 n,z] 24 (0,0))) (hz:∃ a m c,z=.slice a m c):∃ k' n':Int,w'.heap[b]? = some (.cells #[.int .i64 k',.int .i64 n',z] 24 (0,0)):=by
 obtain ⟨arr1,e1,e2,e3⟩:=hc.cells _ _ _ h
 have num:∀ (j:Nat) (x:Int),(#[Value.int .i64 k,.int .i64 n,z]:Array Value)[j]? = some (.int .i64 x) → ∃ x':Int,arr1[j]? = some (.int .i64 x'):=fun j x hx=>by
  rcases e3 j _ hx with h1 | ⟨_,x',_,h1⟩
  ·exact ⟨x,h1⟩
  ·exact ⟨x',h1⟩
 obtain ⟨k',hk⟩:=num 0 k rfl
 obtain ⟨n',hn⟩:=num 1 n rfl
 have h2:arr1[2]? = some z:=by
  rcases e3 2 _ rfl with h | ⟨x,x',h,_⟩
  ·exact h
  ·obtain ⟨a,m,c,e⟩:=hz
   rw [e] at h;cases h
 have harr:arr1=#[.int .i64 k',.int .i64 n',z]:=by
  have hz:arr1.size=3:=e2
  apply Array.ext'
  apply List.ext_getElem?
  intro j
  match j with
  | 0=>simpa using hk
  | 1=>simpa using hn
  | 2=>simpa using h2
  | j + 3=>rw [List.getElem?_eq_none (by simp;omega)];simp
 subst harr
 exact ⟨k',n',e1⟩
theorem ptr_slot {N s k t:Nat} {I:Init} {σ:St} {g:Gh} {a:Act} {w:World} (hR:Rel I N σ g a w) (hs:σ.sl s=.c (.ref k (σ.tg k) 0)):a.tmps.getD s undef=.pointer (some ⟨g.blk k,0,none⟩):=by
 have:=hR.slots s
 rw [hs] at this
 rw [(this (by simp)).2.2 (hR.tags _).symm];rfl
theorem int_slot {N s:Nat} {m:Int} {I:Init} {σ:St} {g:Gh} {a:Act} {w:World} (hR:Rel I N σ g a w) (hs:σ.sl s=.c (.v (.int .i64 m))):a.tmps.getD s undef=.int .i64 m:=by
 have:=hR.slots s
 rw [hs] at this
 exact RV2_v this
theorem elx_slot {N s:Nat} {ad:Addr} {cs:List Cell} {I:Init} {σ:St} {g:Gh} {a:Act} {w:World} (hR:Rel I N σ g a w) (hs:σ.sl s=.c (.elx ad cs)):a.tmps.getD s undef=.pointer (some ad):=by
 have:=hR.slots s
 rw [hs] at this
 exact (this (by simp)).1
theorem box_re {N k ty:Nat} {t:T} {I:Init} {σ:St} {g:Gh} {a:Act} {w:World} (hR:Rel I N σ g a w) (ho:σ.ob k=some (.box ty t.cells)):∀ (i:Nat) (d:Cell),t.cells[i]? = some d → ∃ x,Lies (gAll w) w ((⟨g.blk k,0,none⟩:Addr).add i) x ∧ RD (gAll w) w d x:=fun i d hd=>by
 obtain ⟨vs,f1,f2,_⟩:=hR.obs k _ ho
 have hlt:g.blk k < w.heap.size:=(Array.getElem?_eq_some_iff.1 f1).1
 obtain ⟨x,q1,q2⟩:=f2.get i d hd
 have q1:vs[i]? = some x:=by simpa using q1
 refine ⟨x,⟨by rw [add_blk];exact hlt,by rw [add_blk,cell_blk f1,Nat.zero_add];exact q1⟩,cells_re (g:=g) (w:=w) (fun a y hy=>⟨hR.wok _ _ hy.1,hy.2⟩) hd (isD_spec q2 (cells_isD' t d (List.mem_of_getElem? hd)))⟩
theorem end10 {N:Nat} {I:Init} {σ:St} {g:Gh} {a:Act} {w:World} {fn:Func} (hR:Rel I N σ g a w) (hres:okR Try.prog fn.results.toList r10=true) (hE:EndOK [] r10 (bb true) [] σ):(results fn a.tmps).run Try.prog w=.ok (.bool true) w:=by
 have hrs:fn.results=#[.tmp 8]:=by
  match h:fn.results.toList with
  | []=>rw [h] at hres;simp [okR,r10] at hres
  | [.tmp s']=>
   rw [h] at hres
   simp [okR,r10] at hres
   rw [← Array.toArray_toList (xs:=fn.results),h,hres]
  | [.cell _ _]=>rw [h] at hres;simp [okR,r10] at hres
  | .tmp s' :: y :: l=>rw [h] at hres;simp [okR,r10] at hres
  | .cell _ _ :: y :: l=>rw [h] at hres;simp [okR,r10] at hres
 have hg:=hE.gk (.t 8) (by simp [r10])
 have hv:=toD2_spec hR (RV_un (hR.slots 8) hg)
 have hr:=hE.res
 simp only [r10,resOf,resL,rrEv] at hr
 generalize toD2 σ (un (σ.sl 8))=x at hr hv
 have hx:x=bb true:=by cases x <;> simp [isV1,bb] at hr ⊢ <;> exact hr
 subst hx
 have:=RV2_v hv
 have hv':a.tmps[8]?.getD undef=.bool true:=by rw [← Array.getD_eq_getD_getElem?];exact this
 simp [results,hrs,hv']
end Go.Abs

namespace Go.Abs
open Go.Proofs Go.RowKit
theorem law10 (t:T) (b f m:Int) (hc:t.count ≤ 1048576) {w:World} {vs:Array Value} (hargs:All2 (RV2 (gAll w) w) [tm t,ib b,ib f,ib m] vs.toList) :
  Calls Try.prog 3 vs w fun e w'=>e=.returned (.bool true) ∧ Below w.heap.size w w':=by
 have hok:=ok10
 unfold okFn at hok
 split at hok
 case h_2=>cases hok
 rename_i fn hf
 split at hok
 case h_2=>cases hok
 rename_i c hbody
 simp only [Bool.and_eq_true,decide_eq_true_eq,Bool.not_eq_true'] at hok
 obtain ⟨⟨⟨⟨hn,hmn⟩,hcode⟩,hres⟩,hname⟩:=hok
 refine calls_of_wp hf hbody ?_
 have fin:∀ {N:Nat} {I:Init} {σ:St} {g:Gh} {a:Act} {w':World},Rel I N σ g a w' → I.defs=[] → EndOK [] r10 (bb true) [] σ → IntCh w.heap.size w w' →
   a.defers=[] ∧ ∃ v,(results fn a.tmps).run Try.prog w'=.ok v w' ∧ Ending.returned v=.returned (.bool true) ∧ Below w.heap.size w w':=fun hR hd hE hC=>
  ⟨hR.defs.trans hd,_,end10 hR hres hE,rfl,hC.os,hC.tape,hC.out,hC.grow,hC.low⟩
 have hvs:vs.size=4:=by simpa using hargs.length.symm
 rw [c10_eq] at hcode
 refine W_pre (n:=94) (base:=10000) (I:=⟨gAll w,w,fun _=>False,[]⟩) (σ:=⟨slotsOf [tm t,ib b,ib f,ib m],fun _=>none,fun _=>0⟩) (g:=gAll w) (by rfl) a10 (by simp [a10,p10A0,p10A1,p10A2,isFrz]) hcode (law_a t b f m _ rfl rfl rfl rfl) ?_ ?_ (all_rel ?_ rfl fun s=>?_)
 ·intro σ1 g1 a1 w1 y1 hq hR hy
  have hq:QA10 t b f m σ1:=hq
  have C1:IntCh w.heap.size w w1:=hR.ch (Nat.le_refl _)
  have hle1:=hR.grow
  have e4:=ptr_slot (t:=0) hR hq.s4
  have e9:=ptr_slot (t:=0) hR hq.s9
  have r4:=box_re hR hq.o4
  have r9:=box_re hR hq.o9
  have i1:=int_slot hR hq.s1
  have i2:=int_slot hR hq.s2
  have i3:=int_slot hR hq.s3
  have z1:=hR.size
  have d1:=hR.defs
  generalize (⟨g1.blk 10004,0,none⟩:Addr)=ad4 at e4 r4
  generalize (⟨g1.blk 10009,0,none⟩:Addr)=ad9 at e9 r9
  clear hR hq
  refine W_pre (n:=94) (base:=10000) (I:=⟨gAll w1,w1,fun _=>False,[]⟩) (σ:=⟨fun s=>if s=1 then ib b else if s=2 then ib f else if s=3 then ib m else if s=4 then .c (.elx ad4 t.cells) else if s=9 then .c (.elx ad9 t.cells) else .c .junk,fun _=>none,fun _=>0⟩) (g:=gAll w1) (by rfl) b10
   (by simp [b10,p10B3,p10B4,p10B5,p10B6,p10B7,isFrz]) hy (law_b t b f m hc ad4 ad9 _ rfl rfl rfl rfl rfl) ?_ ?_ (all_rel z1 d1 fun s=>?_)
  ·intro σ2 g2 a2 w2 y2 hq hR hy2
   have hq:QB10 t m (t.shift b f).1 (t.lower m).1 ad4 ad9 σ2:=hq
   generalize (t.shift b f).1=x at hq
   generalize (t.lower m).1=u at hq
   obtain ⟨y3,y4,rfl,ok8,hy4⟩:=ok_seq hy2 (by rfl) (by rfl)
   obtain ⟨y5,y6,rfl,ok9,oke⟩:=ok_seq hy4 (by rfl) (by rfl)
   obtain ⟨rid8,ops8,rfl,okm8⟩:=ok_reg ok8
   obtain ⟨rid9,ops9,rfl,okm9⟩:=ok_reg ok9
   -- the first term is written over
   refine wp_seq (wp_region ?_)
   have hsz8:ops8.size=2:=by have:=okOps_len okm8;simpa using this
   have hr8:List.range ops8.size=List.range' ([]:List SO).length ([⟨some 84,none,.ldn 24 3 (.t 10)⟩]:List SO).length ++ [1]:=by rw [hsz8];rfl
   rw [hr8]
   refine text3 (base:=10000) (K:=fun σ=>QB10 t m x u ad4 ad9 σ ∧ σ.sl 84=.agg x.ncells) (post:=[⟨some 85,none,.call (.f 13) [.t 84]⟩]) okm8 (fun σ3 g3 a3 w3 hq3 hR3=>?_) (by rfl) ?_ hR
   rotate_left
   ·obtain ⟨s4,s9,s10,o10,s14,o14⟩:=hq
    simp [s10,o10]
    exact ⟨by simp [s4],by simp [s9],by simp [s10],by simp [o10],by simp [s14],by simp [o14]⟩
   obtain ⟨hq3,s84⟩:=hq3
   have C3:IntCh w1.heap.size w1 w3:=hR3.ch (Nat.le_refl _)
   have hlo3:g3.lo=w1.heap.size:=hR3.kp.lo
   obtain ⟨v84,e84,h84⟩:=opd_tN hR3 s84
   obtain ⟨xk,xn,xz,ex,shx⟩:=agg3 h84
   obtain rfl:v84=#[.int .i64 xk,.int .i64 xn,xz]:=by rw [← Array.toArray_toList (xs:=v84),ex]
   obtain ⟨v14,f14,h14,_⟩:=hR3.obs 10014 _ hq3.o14
   obtain ⟨uk,un,uz,eu,shu⟩:=agg3 h14
   obtain rfl:v14=#[.int .i64 uk,.int .i64 un,uz]:=by rw [← Array.toArray_toList (xs:=v14),eu]
   rw [hlo3] at shx shu
   have q4:=elx_slot hR3 hq3.s4
   have q9:=elx_slot hR3 hq3.s9
   have q14:=ptr_slot (t:=0) hR3 hq3.s14
   have z3:=hR3.size
   have d3:=hR3.defs
   generalize g3.blk 10014=b14 at f14 q14
   clear hR hR3 hq hq3 h84 h14 s84 ex eu hlo3
   rw [wpOps_cons]
   refine call_op (n:=94) (sos:=[⟨some 84,none,.ldn 24 3 (.t 10)⟩,⟨some 85,none,.call (.f 13) [.t 84]⟩]) (f:=13) (d:=85) (s:=84) okm8 rfl enters13 ?_
   rw [e84]
   refine (spoil x xk xn xz w3 w1.heap.size C3.grow shx).mono ?_
   rintro e w4 ⟨⟨r,rfl⟩,C34⟩
   refine ⟨r,rfl,?_⟩
   have C4:=C3.trans C34
   have gp:∀ s,(a3.put (some 85) r).tmps.getD s undef=if s=85 then r else a3.tmps.getD s undef:=fun s=>Act.getD_put (by rw [z3];omega) s
   have q4:(a3.put (some 85) r).tmps.getD 4 undef=.pointer (some ad4):=by rw [gp,if_neg (by omega)];exact q4
   have q9:(a3.put (some 85) r).tmps.getD 9 undef=.pointer (some ad9):=by rw [gp,if_neg (by omega)];exact q9
   have q14:(a3.put (some 85) r).tmps.getD 14 undef=.pointer (some ⟨b14,0,none⟩):=by rw [gp,if_neg (by omega)];exact q14
   have z4:(a3.put (some 85) r).tmps.size=94:=by simp [Act.put,z3]
   have d4:(a3.put (some 85) r).defers=[]:=d3
   generalize a3.put (some 85) r=a4 at q4 q9 q14 z4 d4
   obtain ⟨uk,un,f14⟩:=box3 C34 f14 shu.slice
   have shu:=shu.mono C34
   have huz:=shu.slice
   clear gp e84 shx z3 d3 C3 C34
   -- the second term is written over
   refine wp_seq (wp_region ?_)
   have hsz9:ops9.size=2:=by have:=okOps_len okm9;simpa using this
   have hr9:List.range ops9.size=List.range' ([]:List SO).length ([⟨some 86,none,.ldn 24 3 (.t 14)⟩]:List SO).length ++ [1]:=by rw [hsz9];rfl
   rw [hr9]
   have hb14:b14 < w4.heap.size:=(Array.getElem?_eq_some_iff.1 f14).1
   refine text3 (base:=10000) (I:=⟨gAll w4,w4,fun _=>False,[]⟩) (g:=gAll w4) (σ:=⟨fun s=>if s=4 then .c (.v (.pointer (some ad4))) else if s=9 then .c (.v (.pointer (some ad9))) else if s=14 then .c (.elx ⟨b14,0,none⟩ [.v (.int .i64 uk),.v (.int .i64 un),.v uz]) else .c .junk,fun _=>none,fun _=>0⟩)
    (K:=fun σ=>σ.sl 4=.c (.v (.pointer (some ad4))) ∧ σ.sl 9=.c (.v (.pointer (some ad9))) ∧ σ.sl 86=.agg [.v (.int .i64 uk),.v (.int .i64 un),.v uz]) (post:=[⟨some 87,none,.call (.f 13) [.t 86]⟩]) okm9 (fun σ5 g5 a5 w5 hq5 hR5=>?_) (by rfl) ?_ (all_rel z4 d4 fun s=>?_)
   rotate_left
   ·simp
   ·by_cases h4:s=4
    ·subst h4;simp only [if_true];rw [q4];exact fun _=>.v _ rfl
    ·by_cases h9:s=9
     ·subst h9;simp only [h4,if_false,if_true];rw [q9];exact fun _=>.v _ rfl
     ·by_cases h14:s=14
      ·subst h14;simp only [h4,h9,if_false,if_true];rw [q14]
       refine fun _=>⟨rfl,fun i d hd=>?_⟩
       match i with
       | 0=>simp at hd;subst hd;exact ⟨_,⟨by rw [add_blk];exact hb14,by rw [add_blk,cell_blk f14];rfl⟩,.v _ rfl⟩
       | 1=>simp at hd;subst hd;exact ⟨_,⟨by rw [add_blk];exact hb14,by rw [add_blk,cell_blk f14];rfl⟩,.v _ rfl⟩
       | 2=>
        simp at hd;subst hd
        refine ⟨uz,⟨by rw [add_blk];exact hb14,by rw [add_blk,cell_blk f14];rfl⟩,.v _ ?_⟩
        obtain ⟨_,_,_,rfl⟩:=huz;rfl
       | i + 3=>simp at hd
      ·simp only [h4,h9,h14,if_false];exact fun h=>absurd rfl h
   obtain ⟨p4,p9,s86⟩:=hq5
   have C45:IntCh w1.heap.size w4 w5:=hR5.ch C4.grow
   obtain ⟨v86,e86,h86⟩:=opd_tN hR5 s86
   obtain rfl:v86=#[.int .i64 uk,.int .i64 un,uz]:=by
    match hv:v86.toList,h86 with
    | [x,y,z],⟨r1,r2,r3,_⟩=>
     rw [← Array.toArray_toList (xs:=v86),hv,rd_v r1,rd_v r2,rd_v r3]
    | [],f=>exact f.elim
    | [_],f=>exact f.2.elim
    | [_,_],f=>exact f.2.2.elim
    | _ :: _ :: _ :: _ :: _,f=>exact f.2.2.2.elim
   have shu:=shu.mono C45
   have p4:=RV2_v (opd_tN hR5 p4)
   have p9:=RV2_v (opd_tN hR5 p9)
   have z5:=hR5.size
   have d5:=hR5.defs
   have C5:=C4.trans C45
   clear hR5 s86 h86 f14 hb14
   rw [wpOps_cons]
   refine call_op (n:=94) (sos:=[⟨some 86,none,.ldn 24 3 (.t 14)⟩,⟨some 87,none,.call (.f 13) [.t 86]⟩]) (f:=13) (d:=87) (s:=86) okm9 rfl enters13 ?_
   rw [e86]
   refine (spoil u uk un uz w5 w1.heap.size C5.grow shu).mono ?_
   rintro e w6 ⟨⟨r,rfl⟩,C56⟩
   refine ⟨r,rfl,?_⟩
   have C6:=C5.trans C56
   have gp:∀ s,(a5.put (some 87) r).tmps.getD s undef=if s=87 then r else a5.tmps.getD s undef:=fun s=>Act.getD_put (by rw [z5];omega) s
   have q4:(a5.put (some 87) r).tmps.getD 4 undef=.pointer (some ad4):=by rw [gp,if_neg (by omega)];exact p4
   have q9:(a5.put (some 87) r).tmps.getD 9 undef=.pointer (some ad9):=by rw [gp,if_neg (by omega)];exact p9
   have z6:(a5.put (some 87) r).tmps.size=94:=by simp [Act.put,z5]
   have d6:(a5.put (some 87) r).defers=[]:=d5
   generalize a5.put (some 87) r=a6 at q4 q9 z6 d6
   clear gp e86 shu z5 d5 C5 C56 C45 C4
   -- what lay there before is as it was
   have hL:∀ a x,Lies (gAll w1) w1 a x → Lies (gAll w6) w6 a x:=fun a x h=>⟨Nat.lt_of_lt_of_le h.1 C6.grow,(World.cell?_of_block (C6.low _ h.1)).trans h.2⟩
   have move:∀ ad:Addr,(∀ (i:Nat) (d:Cell),t.cells[i]? = some d → ∃ x,Lies (gAll w1) w1 (ad.add i) x ∧ RD (gAll w1) w1 d x) → ∀ (i:Nat) (d:Cell),t.cells[i]? = some d → ∃ x,Lies (gAll w6) w6 (ad.add i) x ∧ RD (gAll w6) w6 d x:=fun ad h i d hd=>by
    obtain ⟨x,h1,h2⟩:=h i d hd
    exact ⟨x,hL _ _ h1,cells_re hL hd h2⟩
   have r4:=move ad4 r4
   have r9:=move ad9 r9
   refine W_sound (n:=94) (base:=10000) (I:=⟨gAll w6,w6,fun _=>False,[]⟩) (.seq p10E10 .ret) y6 ⟨fun s=>if s=4 then .c (.elx ad4 t.cells) else if s=9 then .c (.elx ad9 t.cells) else .c .junk,fun _=>none,fun _=>0⟩ (onEnd [] r10 (bb true) []) _ oke (law_e t ad4 ad9 _ rfl rfl) (fun e σ7 g7 a7 w7 hq7 hR7=>?_) (gAll w6) a6 w6 (all_rel z6 d6 fun s=>?_)
   ·have C7:IntCh w.heap.size w w7:=C1.trans ((C6.trans (hR7.ch C6.grow)).le hle1)
    cases e with
    | normal=>exact fin hR7 rfl hq7 C7
    | ret=>exact fin hR7 rfl hq7 C7
    | exit id=>exact hq7.elim
   ·by_cases h4:s=4
    ·subst h4;simp only [if_true];rw [q4];exact fun _=>⟨rfl,r4⟩
    ·by_cases h9:s=9
     ·subst h9;simp only [h4,if_false,if_true];rw [q9];exact fun _=>⟨rfl,r9⟩
     ·simp only [h4,h9,if_false];exact fun h=>absurd rfl h
  ·intro e σ' g' a' w' hne hq _
   cases e with
   | normal=>exact absurd rfl hne
   | exit id=>exact hq.elim
   | ret=>exact hq.elim
  ·by_cases h1:s=1
   ·subst h1;simp only [if_true];rw [i1];exact fun _=>.v _ rfl
   ·by_cases h2:s=2
    ·subst h2;simp only [h1,if_false,if_true];rw [i2];exact fun _=>.v _ rfl
    ·by_cases h3:s=3
     ·subst h3;simp only [h1,h2,if_false,if_true];rw [i3];exact fun _=>.v _ rfl
     ·by_cases h4:s=4
      ·subst h4;simp only [h1,h2,h3,if_false,if_true];rw [e4];exact fun _=>⟨rfl,r4⟩
      ·by_cases h9:s=9
       ·subst h9;simp only [h1,h2,h3,h4,if_false,if_true];rw [e9];exact fun _=>⟨rfl,r9⟩
       ·simp only [h1,h2,h3,h4,h9,if_false];exact fun h=>absurd rfl h
 ·intro e σ' g' a' w' hne hq hR
  cases e with
  | normal=>exact absurd rfl hne
  | exit id=>exact hq.elim
  | ret=>exact fin hR rfl hq (hR.ch (Nat.le_refl _))
 ·simp [hn,hvs]
 ·simp only [slotsOf]
  by_cases hs:s < 4
  ·have hget:([tm t,ib b,ib f,ib m]:List AV)[s]? = some (([tm t,ib b,ib f,ib m]:List AV)[s]'hs):=List.getElem?_eq_getElem hs
   obtain ⟨v,hv,hrv⟩:=hargs.get s _ hget
   have e1:([tm t,ib b,ib f,ib m]:List AV).getD s (.c .junk)=([tm t,ib b,ib f,ib m]:List AV)[s]'hs:=by rw [List.getD_eq_getElem?_getD,hget];rfl
   have e2:(vs ++ Array.replicate (fn.ntmps - vs.size) undef).getD s undef=v:=by
    have hsv:s < vs.size:=by omega
    have hv':vs[s]? = some v:=by simpa using hv
    simp only [Array.getD_eq_getD_getElem?]
    rw [Array.getElem?_append_left hsv,hv'];rfl
   show RV (gAll w) w _ ((vs ++ Array.replicate (fn.ntmps - vs.size) undef).getD s undef)
   rw [e1,e2]
   exact RV_of2 hrv
  ·have e1:([tm t,ib b,ib f,ib m]:List AV).getD s (.c .junk)=.c .junk:=by rw [List.getD_eq_getElem?_getD,List.getElem?_eq_none (by simp;omega)];rfl
   rw [e1]
   exact fun h=>absurd rfl h
end Go.Abs
