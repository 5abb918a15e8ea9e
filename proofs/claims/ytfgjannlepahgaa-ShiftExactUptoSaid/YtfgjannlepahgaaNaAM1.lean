/- THIS TEXT PROVES A PART OF A CALCULUS THAT TELLS WHAT A LOADED GO FUNCTION DOES WITHOUT NAMING MEMORY: each rule is proved against the machine, for every program and every world; its conditions stand in each theorem. -/
import Derived.MapKept
import Derived.Test.YtfgjannlepahgaaNaAM0
set_option linter.unusedVariables false
set_option linter.unusedSimpArgs false
namespace Go.Abs
variable {P:Program} {I:Init} {n:Nat} {σ:St} {g g':Gh} {a:Act} {w w':World} {o:Oper} {e:Eff} {key:Nat}
theorem wrap_i64 {m:Int} (h0:0 ≤ m) (h1:m ≤ 9223372036854775807):IntKind.i64.wrap m=m:=by
 simp only [IntKind.wrap,IntKind.bits,IntKind.signed,Bool.true_and]
 have h2:m % (2 ^ 64:Int)=m:=Int.emod_eq_of_lt h0 (by omega)
 simp only [h2]
 split
 ·rename_i h;simp at h;omega
 ·rfl
theorem zs_data:∀ {vs:List Value} {zs:List Cell},zcs vs zs=true → ∀ (j:Nat) d,(zs.map Cell.plain)[j]? = some d → ∃ v,vs[j]? = some v ∧ ∀ (g:Gh) (w:World),RD g w d v
 | [],[],_,j,d,h=>by simp at h
 | v :: vs,c :: cs,h,0,d,hd=>by
  simp [zcs] at h
  simp at hd
  subst hd
  refine ⟨v,rfl,fun g w=>?_⟩
  have hz:=zc_spec (g:=g) (w:=w) h.1
  cases c with
  | v x=>exact hz
  | cap sz bs es=>exact hz.1
  | _=>cases v <;> simp [zc] at h
 | v :: vs,c :: cs,h,j + 1,d,hd=>by
  simp [zcs] at h
  obtain ⟨v',e1,e2⟩:=zs_data h.2 j d (by simpa using hd)
  exact ⟨v',by simpa using e1,e2⟩
 | [],_ :: _,h,_,_,_=>by simp [zcs] at h
 | _ :: _,[],h,_,_,_=>by simp [zcs] at h
theorem zcs_len:∀ {vs:List Value} {zs:List Cell},zcs vs zs=true → vs.length=zs.length
 | [],[],_=>rfl
 | v :: vs,c :: cs,h=>by simp [zcs] at h;simp [zcs_len h.2]
 | [],_ :: _,h=>by simp [zcs] at h
 | _ :: _,[],h=>by simp [zcs] at h
theorem s_mk (hR:Rel I n σ g a w) {x1 x2:Operand} {y:SArg} {t ty sz bs:Nat} {zs:List Cell} (ho:o.op=.makeSlice t x1 x2) (h1:okA x1 y=true) (h2:okA x2 y=true) (ht:elemT P t=some ty) (hsz:szT P ty=some sz) (hs0:0 < sz) (hbs:bsT P ty=some bs) (hb0:0 < bs)
  (hz:zeroOK P ty zs=true) (hzl:zs.length=sz) (he:ev1 key σ.ev σ (.mk ty sz bs zs y)=some e) (hc:cond true σ.ev σ (.mk ty sz bs zs y)):Does P I σ g a w o e:=by
 have v1:=opd hR h1 hc.1
 have v2:=opd hR h2 hc.1
 have hc2:=hc.2
 obtain ⟨i,hi,hisz⟩:=info_of hsz
 obtain ⟨z,hz1,hz2⟩:=zero_of hz hi
 have hzc:z.cells.size=sz:=by have:=zcs_len hz2;simp at this;omega
 have hib:i.bytes=bs:=by
  unfold bsT at hbs
  obtain ⟨i',q1,q2⟩:=Option.map_eq_some_iff.1 hbs
  rw [hi] at q1;cases q1;exact q2
 simp only [ev1] at he
 split at he
 ·rename_i m em
  cases he
  rw [em] at v1 v2 hc2
  simp only at hc2
  obtain ⟨hm0,hroom⟩:0 ≤ m ∧ m * bs ≤ room:=by simpa using hc2
  have e1:=RV2_v v1
  have e2:=RV2_v v2
  obtain ⟨q,rfl⟩:=Int.eq_ofNat_of_zero_le hm0
  have hq:q * bs ≤ room:=by exact_mod_cast hroom
  have hq2:q ≤ 140737488355328:=Nat.le_trans (Nat.le_mul_of_pos_right _ hb0) hq
  have hw:IntKind.i64.wrap (q:Int)=q:=wrap_i64 (by omega) (by omega)
  let arr:Array Value:=(Array.range (q * sz)).map (z.cells[· % z.cells.size]!)
  have hrun:(execOp a.eval o).run P w=.ok (.value (.slice (some ⟨w.heap.size,0,none⟩) q q)) (w.alloc (.cells arr ty)):=by
   have hbig:¬ ((bs:Int) * (q:Int) > 281474976710656):=by
    have:bs * q ≤ 140737488355328:=by rw [Nat.mul_comm];exact hq
    omega
   by_cases hn:q * sz=0
   ·have hq0:q=0:=by
     rcases Nat.mul_eq_zero.1 hn with h | h
     ·exact h
     ·omega
    subst hq0
    simp [execOp,ho,e1,e2,Instr.makeSlice,run_underlying (elemT_spec ht),asInt,asIntOf,typeInfo,hi,run_sz hsz,newRow,arr,wrap_i64]
    congr 2
    apply Array.ext'
    simp
   ·simp [execOp,ho,e1,e2,Instr.makeSlice,run_underlying (elemT_spec ht),asInt,asIntOf,typeInfo,hi,hib,run_sz hsz,hw,hbig,hn,newRow,arr,zeroValue,hz1]
    omega
  obtain ⟨k1,k2,k3⟩:=g.at_key key w.heap.size (.slice (some ⟨w.heap.size,0,none⟩) q q) g.st (pur:=[key]) (by simp)
  refine ⟨_,g.at key w.heap.size (.slice (some ⟨w.heap.size,0,none⟩) q q) g.st [key],_,.inl hrun,Step.alloc (key:=key) hR _ (S:=fun _=>False) (fun b x=>by simp [Gh.at]) (g.at_agree _ _ _ _ (by simp)) (g.at_anew _ _ _ _) (.inr ⟨_,rfl,?_,fun _=>k2⟩),fun _=>?_⟩
  ·have harr:arr.size=q * sz:=by simp [arr]
   refine ⟨arr,q,by rw [k3,k2];simp,by simp,by rw [k2];exact heap_new _,harr,by simpa using hq,fun l hl=>?_,fun p j l d h1 h2=>?_,fun x hx=>?_⟩
   ·simp at hl;obtain ⟨_,rfl⟩:=hl;simp [hzl]
   ·have hp:p < q:=by
     have:=(List.getElem?_eq_some_iff.1 h1).1
     simpa using this
    have hl:l=zs.map Cell.plain:=by
     rw [List.getElem?_replicate] at h1
     simp at h1;exact h1.2.symm
    subst hl
    obtain ⟨v,f1,f2⟩:=zs_data hz2 j d h2
    have hj:j < sz:=by have:=(List.getElem?_eq_some_iff.1 h2).1;simp at this;omega
    refine ⟨v,?_,f2 (g.at key w.heap.size (.slice (some ⟨w.heap.size,0,none⟩) q q) g.st [key]) _⟩
    have hlt:p * sz + j < q * sz:=by
     have:(p + 1) * sz ≤ q * sz:=Nat.mul_le_mul_right _ hp
     rw [Nat.add_mul] at this;omega
    have hmod:(p * sz + j) % z.cells.size=j:=by rw [hzc,Nat.mul_comm,Nat.mul_add_mod,Nat.mod_eq_of_lt hj]
    simp only [arr,Array.getElem?_map,Array.getElem?_range,hlt,if_true,Option.map_some,hmod]
    rw [Array.getElem!_eq_getD,Array.getD_eq_getD_getElem?]
    have:z.cells[j]? = some v:=by simpa using f1
    rw [this];rfl
   ·rw [k2] at hx
    have:=hR.wok _ _ hx
    omega
  ·exact ⟨rfl,by rw [k1,hR.tags];exact Nat.le_refl _,fun _=>⟨k3.symm,_,_,_,rfl⟩⟩
 ·cases he
def okO:Option Operand → Option SArg → Bool
 | none,none=>true
 | some x,some y=>okA x y
 | _,_=>false
theorem s_mkb (hR:Rel I n σ g a w) {x1 x2:Operand} {y:SArg} {t ty bs:Nat} {z0:Cell} (ho:o.op=.makeSlice t x1 x2) (h1:okA x1 y=true) (h2:okA x2 y=true) (ht:elemT P t=some ty) (hsz:szT P ty=some 1) (hbs:bsT P ty=some bs) (hb0:0 < bs)
  (hz:zeroOK P ty [z0]=true) (he:ev1 key σ.ev σ (.mkb ty bs z0 y)=some e) (hc:cond true σ.ev σ (.mkb ty bs z0 y)):Does P I σ g a w o e:=by
 have v1:=opd hR h1 hc.1
 have v2:=opd hR h2 hc.1
 have hc2:=hc.2
 obtain ⟨i,hi,hisz⟩:=info_of hsz
 obtain ⟨z,hz1,hz2⟩:=zero_of hz hi
 have hzc:z.cells.size=1:=by have:=zcs_len hz2;simp at this;omega
 have hib:i.bytes=bs:=by
  unfold bsT at hbs
  obtain ⟨i',q1,q2⟩:=Option.map_eq_some_iff.1 hbs
  rw [hi] at q1;cases q1;exact q2
 simp only [ev1] at he
 split at he
 ·rename_i m em
  cases he
  rw [em] at v1 v2 hc2
  simp only at hc2
  obtain ⟨hm0,hroom⟩:0 ≤ m ∧ m * bs ≤ room:=by simpa using hc2
  have e1:=RV2_v v1
  have e2:=RV2_v v2
  obtain ⟨q,rfl⟩:=Int.eq_ofNat_of_zero_le hm0
  have hq:q * bs ≤ room:=by exact_mod_cast hroom
  have hq2:q ≤ 140737488355328:=Nat.le_trans (Nat.le_mul_of_pos_right _ hb0) hq
  have hw:IntKind.i64.wrap (q:Int)=q:=wrap_i64 (by omega) (by omega)
  let arr:Array Value:=(Array.range (q * 1)).map (z.cells[· % z.cells.size]!)
  have hrun:(execOp a.eval o).run P w=.ok (.value (.slice (some ⟨w.heap.size,0,none⟩) q q)) (w.alloc (.cells arr ty)):=by
   have hbig:¬ ((bs:Int) * (q:Int) > 281474976710656):=by
    have:bs * q ≤ 140737488355328:=by rw [Nat.mul_comm];exact hq
    omega
   by_cases hn:q * 1=0
   ·have hq0:q=0:=by omega
    subst hq0
    simp [execOp,ho,e1,e2,Instr.makeSlice,run_underlying (elemT_spec ht),asInt,asIntOf,typeInfo,hi,run_sz hsz,newRow,arr,wrap_i64]
    congr 2
    apply Array.ext'
    simp
   ·have hn':¬ q=0:=by omega
    simp [execOp,ho,e1,e2,Instr.makeSlice,run_underlying (elemT_spec ht),asInt,asIntOf,typeInfo,hi,hib,run_sz hsz,hw,hbig,hn',newRow,arr,zeroValue,hz1]
    try omega
  obtain ⟨k1,k2,k3⟩:=g.at_key key w.heap.size undef g.st (pur:=[key]) (by simp)
  refine ⟨_,g.at key w.heap.size undef g.st [key],_,.inl hrun,Step.alloc (key:=key) hR _ (S:=fun _=>False) (fun b x=>by simp [Gh.at]) (g.at_agree _ _ _ _ (by simp)) (g.at_anew _ _ _ _) (.inr ⟨_,rfl,?_,fun _=>k2⟩),fun _=>?_⟩
  ·have harr:arr.size=q:=by simp [arr]
   obtain ⟨v0,hv0⟩:∃ v0,z.cells.toList=[v0]:=by
    have:z.cells.toList.length=1:=by simpa using hzc
    match h:z.cells.toList,this with
    | [v],_=>exact ⟨v,rfl⟩
   have hz0:z.cells=#[v0]:=by rw [← Array.toArray_toList (xs:=z.cells),hv0]
   refine ⟨arr,by rw [k2];exact heap_new _,All2.mk (by simp [harr]) fun p c v hp hv=>?_,fun x hx=>?_⟩
   ·rw [List.getElem?_replicate] at hp
    split at hp
    ·rename_i hlt
     cases hp
     have hpq:p < q:=by simpa using hlt
     have hv':v=v0:=by
      have:arr[p]? = some v:=by simpa using hv
      simp [arr,hz0,Array.getElem?_range,hpq] at this
      rw [Nat.mod_one] at this
      simpa using this.symm
     subst hv'
     rw [hv0] at hz2
     simp [zcs] at hz2
     exact zc_spec hz2
    ·cases hp
   ·rw [k2] at hx
    have:=hR.wok _ _ hx
    omega
  ·exact ⟨rfl,by rw [k1,hR.tags];exact Nat.le_refl _,fun _=>by rw [k2];rfl⟩
 ·cases he
theorem run_sliceBound {m:Int} {y:Nat} {code:BoundsCode} (h0:0 ≤ m) (h1:m ≤ y):(Instr.sliceBound (.int .i64 m) y code).run P w=.ok m.toNat w:=by
 simp [Instr.sliceBound,asIntOf,h0,h1]
theorem RD_cut {sz sz' bs bs':Nat} {es:List (List Cell)} {v:Value} (h:RD g w (.sl sz' bs' es) v) (hsz:sz'=sz ∨ es=[]) (hb:es.length * bs ≤ room) {l hh:Nat} (h1:l ≤ hh) (h2:hh ≤ es.length) :
  ∃ q c,v=.slice q es.length c ∧ es.length ≤ c ∧ ∀ m,hh ≤ m → m ≤ c → ∃ q',(if m=l then q else q.map (·.add (l * sz)))=q' ∧ RD g w (.sl sz bs ((es.take hh).drop l)) (.slice q' (hh - l) (m - l)):=by
 cases h with
 | sl _ _ _ q c vs a1 a2 a3 a4 a5=>
  refine ⟨q,c,rfl,a1,fun m m1 m2=>⟨_,rfl,?_⟩⟩
  have hlen:((es.take hh).drop l).length=hh - l:=by simp;omega
  have hat:∀ i,((es.take hh).drop l)[i]? = if i < hh - l then es[l + i]? else none:=fun i=>by
   rw [List.getElem?_drop,List.getElem?_take]
   by_cases hi:i < hh - l
   ·rw [if_pos hi,if_pos (by omega)]
   ·rw [if_neg hi,if_neg (by omega)]
  have hs:∀ x,x ∈ es → x.length=sz:=fun x hx=>by
   rcases hsz with rfl | rfl
   ·exact a3 x hx
   ·simp at hx
  rw [← hlen]
  refine .sl sz bs _ _ _ (fun i j=>vs (l + i) j) (by rw [hlen];omega) (Nat.le_trans (Nat.mul_le_mul_right _ (by rw [hlen];omega)) hb) (fun x hx=>hs x (List.mem_of_mem_take (List.mem_of_mem_drop hx))) (fun i j x d e1 e2=>?_) (fun i j x d e1 e2=>?_)
  ·rw [hat] at e1
   split at e1
   ·rename_i hi
    obtain ⟨ad,rfl,hl⟩:=a4 _ j x d e1 e2
    have hszz:sz'=sz:=by
     rcases hsz with h | h
     ·exact h
     ·subst h;simp at e1
    subst hszz
    rw [if_neg (by omega)]
    refine ⟨_,rfl,?_⟩
    have:(ad.add (l * sz')).add (i * sz' + j)=ad.add ((l + i) * sz' + j):=by
     unfold Addr.add
     rw [Nat.add_mul]
     by_cases h1:l * sz'=0 <;> by_cases h2:i * sz' + j=0 <;> simp [h1,h2,Nat.add_assoc]
    rw [this];exact hl
   ·cases e1
  ·rw [hat] at e1
   split at e1
   ·exact a5 _ j x d e1 e2
   ·cases e1
theorem s_slc (hR:Rel I n σ g a w) {x:Operand} {lo hi mx:Option Operand} {y:SArg} {lo' hi' mx':Option SArg} {t t' q sz bs:Nat} (ho:o.op=.slice t x lo hi mx) (hx:okA x y=true) (hlo:okO lo lo'=true) (hhi:okO hi hi'=true) (hmx:okO mx mx'=true) (hmh:mx'.isSome=true → hi'.isSome=true)
  (ht:elemT P t=some q) (hsz:szT P q=some sz) (he:ev1 key σ.ev σ (.slc t' sz bs y lo' hi' mx')=some e) (hc:cond true σ.ev σ (.slc t' sz bs y lo' hi' mx')):Does P I σ g a w o e:=by
 have v1:=opd hR hx hc.1
 obtain ⟨_,c1,c2,c3,c4⟩:=hc
 simp only [ev1] at he
 split at he
 ·rename_i sz' bs' es ee
  have hrd:=elems_spec hR v1 ee
  obtain ⟨d1,d2,d3⟩:=c4 rfl _ ee
  simp only at d1 d2 d3 hrd
  split at he
  ·rename_i l h el eh
   obtain ⟨p0,p1,p2,p3⟩:=d3 l h el eh
   obtain ⟨qa,c,f1,f2,f3⟩:=RD_cut (bs:=bs) (l:=l.toNat) (hh:=h.toNat) hrd d1 d2 (by omega) (by omega)
   -- the bounds,as the machine has them
   have hl:∀ code:BoundsCode,(match lo.map a.eval with | some v=>Instr.sliceBound v h.toNat code | none=>Pure.pure 0:Sem Nat).run P w=.ok l.toNat w:=fun code=>by
    cases lo' with
    | none=>
     cases lo with
     | none=>simp at el;subst el;simp
     | some _=>simp [okO] at hlo
    | some yl=>
     cases lo with
     | none=>simp [okO] at hlo
     | some xl=>
      have:=intOf_spec (opd hR (show okA xl yl=true from hlo) (c1 _ rfl)) el
      simp only [Option.map_some,this]
      exact run_sliceBound p0 (by omega)
   have hfin:∀ (code:BoundsCode) (H M:Nat),(match lo.map a.eval with | some v=>(do let l ← Instr.sliceBound v h.toNat code;Pure.pure (l,H,M)) | none=>(do let l ← Pure.pure 0;Pure.pure (l,H,M)):Sem (Nat × Nat × Nat)).run P w=.ok (l.toNat,H,M) w:=fun code H M=>by
    have:=hl code
    cases lo with
    | none=>simp at this ⊢;exact this
    | some xl=>simp only [Option.map_some] at this ⊢;simp [this]
   have hh:∀ (B:Nat) (code:BoundsCode),h.toNat ≤ B → ∀ xh,hi=some xh → (Instr.sliceBound (a.eval xh) B code).run P w=.ok h.toNat w:=fun B code hB xh hxh=>by
    subst hxh
    cases hi' with
    | none=>simp [okO] at hhi
    | some yh=>
     have:=intOf_spec (opd hR (show okA xh yh=true from hhi) (c2 _ rfl)) eh
     rw [this]
     exact run_sliceBound (by omega) (by omega)
   have hnone:hi=none → h=es.length:=fun hn=>by
    subst hn
    cases hi' with
    | none=>simp at eh;exact eh.symm
    | some _=>simp [okO] at hhi
   cases mx' with
   | none=>
    cases he
    cases mx with
    | some _=>simp [okO] at hmx
    | none=>
     obtain ⟨q',g1,g2⟩:=f3 c (by omega) (Nat.le_refl _)
     refine does_quiet hR rfl rfl (v:=.slice q' (h.toNat - l.toNat) (c - l.toNat)) ?_ (fun _=>g2)
     have hB:(Instr.sliceBounds true es.length c (lo.map a.eval) (hi.map a.eval) none).run P w=.ok (l.toNat,h.toNat,c) w:=by
      cases hi with
      | none=>
       have hhn:=hnone rfl
       have e0:h.toNat=es.length:=by omega
       have:=hfin .sliceB h.toNat c
       simp only [Instr.sliceBounds,Option.map_none,Sem.run_bind,Sem.run_pure,Result.andThen_ok,Option.isSome_none,Bool.false_eq_true,if_false]
       rw [e0] at this ⊢
       exact this
      | some xh=>
       have h2:=hh c .sliceAcap (by omega) xh rfl
       have:=hfin .sliceB h.toNat c
       simp only [Instr.sliceBounds,Option.map_some,Sem.run_bind,Sem.run_pure,Result.andThen_ok,Option.isSome_none,Bool.false_eq_true,if_false,if_true,h2]
       exact this
     simp only [execOp,ho,Instr.sliceAt,Sem.run_bind,run_underlying (elemT_spec ht),Result.andThen_ok,Instr.slice,f1,Option.map_none,hB,run_sz hsz,Sem.run_pure]
     rw [g1]
   | some ym=>
    simp only at he
    split at he
    ·cases he
     cases mx with
     | none=>simp [okO] at hmx
     | some xm=>
      have hm:=intOf_spec (opd hR (show okA xm ym=true from hmx) (c3 _ rfl)) (p3 ym rfl)
      cases hi with
      | none=>
       cases hi' with
       | none=>simp at hmh
       | some _=>simp [okO] at hhi
      | some xh=>
       obtain ⟨q',g1,g2⟩:=f3 h.toNat (Nat.le_refl _) (by omega)
       have hlen:((es.take h.toNat).drop l.toNat).length=h.toNat - l.toNat:=by simp;omega
       refine does_quiet hR rfl rfl (v:=.slice q' (h.toNat - l.toNat) (h.toNat - l.toNat)) ?_ (fun _=>⟨g2,q',by rw [hlen]⟩)
       have hB:(Instr.sliceBounds true es.length c (lo.map a.eval) (some (a.eval xh)) (some (a.eval xm))).run P w=.ok (l.toNat,h.toNat,h.toNat) w:=by
        have h2:=hh h.toNat .slice3B (Nat.le_refl _) xh rfl
        have h3:=hfin .slice3C h.toNat h.toNat
        have h4:(Instr.sliceBound (a.eval xm) c .slice3Acap).run P w=.ok h.toNat w:=by rw [hm];exact run_sliceBound (by omega) (by omega)
        simp only [Instr.sliceBounds,Sem.run_bind,if_true,h4,Result.andThen_ok,h2,Option.isSome_some]
        exact h3
       simp only [execOp,ho,Instr.sliceAt,Sem.run_bind,run_underlying (elemT_spec ht),Result.andThen_ok,Instr.slice,f1,Option.map_some,hB,run_sz hsz,Sem.run_pure]
       rw [g1]
    ·cases he
  ·cases he
 ·cases he
theorem s_shr (hR:Rel I n σ g a w) {x hi:Operand} {y yh:SArg} {t ty sz bs:Nat} (ho:o.op=.slice t x none (some hi) none) (hx:okA x y=true) (hhi:okA hi yh=true)
  (ht:elemT P t=some ty) (hsz:szT P ty=some sz) (he:ev1 key σ.ev σ (.shr ty sz bs y yh)=some e) (hc:cond true σ.ev σ (.shr ty sz bs y yh)):Does P I σ g a w o e:=by
 simp [ev1,shrE] at he
theorem s_cut (hR:Rel I n σ g a w) {x lo:Operand} {y yl:SArg} {t ty sz:Nat} (ho:o.op=.slice t x (some lo) none none) (hx:okA x y=true) (hlo:okA lo yl=true)
  (ht:elemT P t=some ty) (hsz:szT P ty=some sz) (he:ev1 key σ.ev σ (.cut ty sz y yl)=some e) (hc:cond true σ.ev σ (.cut ty sz y yl)):Does P I σ g a w o e:=by
 have v1:=opd hR hx hc.1
 have v2:=opd hR hlo hc.2.1
 have hc3:=hc.2.2 rfl
 simp only [ev1] at he
 cases ex:rowAt σ ty (un (σ.ev y)) with
 | none=>rw [ex] at he;simp [cutE] at he
 | some q=>
 cases eh:intOf? (un (σ.ev yl)) with
 | none=>rw [ex,eh] at he;simp [cutE] at he
 | some h=>
 have hint:=intOf_spec v2 eh
 have hm:∃ ob0 f,σ.ob q.1=some ob0 ∧ a.eval x=g.rv q.1 ∧ RowAt f g w q.1 ty q.2.1 q.2.2.1 q.2.2.2 ∧ ((∃ p m c,g.rv q.1=.slice p m c ∧ m < c) → Active g q.1 ob0):=by
  unfold rowAt at ex
  split at ex
  case h_2=>cases ex
  rename_i k t1 et
  rw [et] at v1
  split at ex
  case isFalse=>cases ex
  rename_i htg
  have e1:=(v1 (by simp)).2.2 (by rw [hR.tags];exact htg)
  split at ex
  ·rename_i ty' sz' bs es eo
   split at ex
   case isFalse=>cases ex
   rename_i hty
   subst hty
   cases ex
   exact ⟨_,0,eo,e1.1,RowAt.of (hR.obs k _ eo),fun h=>h⟩
  ·rename_i ty' sz' bs es eo
   split at ex
   case isFalse=>cases ex
   rename_i hty
   subst hty
   cases ex
   obtain ⟨f,hf⟩:=hR.obs k _ eo
   exact ⟨_,f,eo,e1.1,hf,fun h=>h⟩
  ·cases ex
 obtain ⟨k,sx,bs,es⟩:=q
 rw [ex,eh] at he hc3
 simp only [cutE,Option.some.injEq] at he
 simp only [cutC] at hc3
 obtain ⟨rfl,h0,hle⟩:=hc3
 obtain ⟨ob0,f,eo,hv,⟨hrd,hact⟩,hA⟩:=hm
 simp only at eo hv hrd hact hA
 obtain ⟨_,_,_,_,hb⟩:=RD_len hrd
 obtain ⟨qa,c,f1,f2,f3⟩:=RD_cut (bs:=bs) (l:=h.toNat) (hh:=es.length) hrd (.inl rfl) hb (by omega) (Nat.le_refl _)
 obtain ⟨q',g1,g2⟩:=f3 c f2 (Nat.le_refl _)
 rw [List.take_length] at g2
 have htl:(es.drop h.toNat).length=es.length - h.toNat:=by simp
 let g':=g.at key (g.blk k) (.slice q' (es.length - h.toNat) (c - h.toNat)) g.st [key,k]
 have hkey:key ∈ [key,k]:=by simp
 have hkp':Kp g w g' w:=⟨fun ad h=>⟨h,rfl⟩,rfl,fun _ _ _ _ _ h=>h⟩
 have hrv:g'.rv key=.slice q' (es.length - h.toNat) (c - h.toNat):=by simp [g',Gh.at]
 have hblk:g'.blk key=g.blk k:=by simp [g',Gh.at]
 have one:∀ k' p,[(key,Obj.cut ty sx bs (es.drop h.toNat))].lookup k'=some p → k'=key ∧ p=.cut ty sx bs (es.drop h.toNat):=fun k' p h=>by
  simp only [List.lookup_cons] at h
  split at h
  ·rename_i hkk;cases h;exact ⟨by simpa using hkk,rfl⟩
  ·simp at h
 have hact':(∃ p m c',g'.rv key=.slice p m c' ∧ m < c') → es.length < c:=fun ⟨p,m,c',h1,h2⟩=>by
  rw [hrv] at h1
  injection h1 with _ h3 h4
  omega
 have hr:(execOp a.eval o).run P w=.ok (.value (.slice q' (es.length - h.toNat) (c - h.toNat))) w:=by
  have hB:(Instr.sliceBounds true es.length c (some (a.eval lo)) none none).run P w=.ok (h.toNat,es.length,c) w:=by
   have h2:(Instr.sliceBound (a.eval lo) es.length .sliceB).run P w=.ok h.toNat w:=by rw [hint];exact run_sliceBound (by omega) (by omega)
   simp [Instr.sliceBounds,h2]
  simp only [execOp,ho,Instr.sliceAt,Sem.run_bind,run_underlying (elemT_spec ht),Result.andThen_ok,Instr.slice,hv,f1,Option.map_none,Option.map_some,hB,run_sz hsz,Sem.run_pure]
  rw [g1]
 refine ⟨_,g',_,.inl hr,?_,?_⟩
 ·rw [← he]
  refine
   {kp:=hkp',agree:=g.at_agree _ _ _ _ hkey,anew:=g.at_anew _ _ _ _,puts:=fun k' q hq=>?_,keep:=fun k' q h ha' _ hn'=>⟨rfl,fun x hx=>hx⟩,sep:=fun k' q h' ha k2 q2 h2' ha2 _ hn2 hbb=>?_,seps:=fun k1 k2 q1 q2 h1' h2' _ _ _=>?_,loc:=fun k' q h ha=>?_,
    wok:=fun b' x h=>hR.wok _ _ h,os:=rfl,tape:=rfl,out:=rfl,grow:=Nat.le_refl _,frame:=fun b' hb' hm=>⟨rfl,fun x=>Iff.rfl⟩ }
  ·obtain ⟨rfl,rfl⟩:=one k' q hq
   refine ⟨f + h.toNat * sx,by rw [hrv,← htl];rw [← htl] at g2;exact g2.mono hkp',fun p m c' h1 h2=>?_⟩
   ·have hlt:=hact' ⟨p,m,c',h1,h2⟩
    rw [hrv] at h1
    injection h1 with h3 h4 h5
    obtain ⟨b1,⟨arr,b2,b3⟩,b4⟩:=hact qa es.length c f1 hlt
    rw [if_neg (by omega),b1] at g1
    rw [hblk]
    refine ⟨by rw [← h3,← g1];simp [add_blk],⟨arr,b2,?_⟩,fun o ho=>?_⟩
    ·rw [b3,← h5,Nat.add_assoc,← Nat.add_mul];congr 2;omega
    ·have:=b4 o ho
     rw [← h4,Nat.add_assoc,← Nat.add_mul,show h.toNat + (es.length - h.toNat)=es.length by omega]
     exact this
  ·obtain ⟨rfl,rfl⟩:=one k' q h'
   rw [hblk] at hbb
   have hlt:=hact' ha
   have:=hR.sep k2 k q2 _ h2' eo ha2 (hA ⟨_,_,_,f1,hlt⟩) hbb
   subst this
   exact hn2 (by simp)
  ·exact (one k1 q1 h1').1.trans (one k2 q2 h2').1.symm
  ·obtain ⟨rfl,rfl⟩:=one k' q h
   rw [hblk];exact hR.loc k _ eo (hA ⟨_,_,_,f1,hact' ha⟩)
 ·rw [← he]
  obtain ⟨k1,k2,k3⟩:=g.at_key key (g.blk k) (.slice q' (es.length - h.toNat) (c - h.toNat)) g.st hkey
  exact fun _=>⟨rfl,by show _ ≤ g'.tg key;rw [k1,hR.tags];exact Nat.le_refl _,fun _=>⟨k3.symm,_,_,_,rfl⟩⟩
def concT (P:Program) (t:Nat):Bool:=match P.underlying t with
 | some (.interface _)=>false
 | some _=>true
 | none=>false
theorem s_mki (hR:Rel I n σ g a w) {x:Operand} {y:SArg} {t:Nat} (ho:o.op=.makeInterface t x) (hx:okA x y=true) (ht:concT P t=true) (he:ev1 key σ.ev σ (.mki t y)=some e) (hc:cond true σ.ev σ (.mki t y)):Does P I σ g a w o e:=by
 have v1:=opd hR hx hc
 have hr:(execOp a.eval o).run P w=.ok (.value (.iface t (a.eval x))) w:=by
  unfold concT at ht
  cases hu:P.underlying t with
  | none=>rw [hu] at ht;cases ht
  | some d=>
   rw [hu] at ht
   simp only [execOp,ho,Instr.makeInterface,Sem.run_bind,run_underlying hu,Result.andThen_ok]
   cases d <;> simp_all
 simp only [ev1] at he
 unfold mkiE at he
 split at he
 ·rename_i v ev
  rw [ev] at v1
  cases he
  have hv:=RV2_v v1
  refine does_quiet hR rfl rfl (v:=.iface t (a.eval x)) hr fun _=>?_
  rw [hv]
  exact .v _ rfl
 ·rename_i k t1 ev
  rw [ev] at v1
  split at he
  ·rename_i htg
   cases he
   have hv:=(v1 (by simp)).2.2 (by rw [hR.tags];exact htg)
   refine does_quiet hR rfl rfl (v:=.iface t (a.eval x)) hr fun _=>⟨rfl,(v1 (by simp)).2.1,fun _=>by rw [hv]⟩
  ·cases he
 ·cases he
theorem s_tas (hR:Rel I n σ g a w) {x:Operand} {y:SArg} {t ty:Nat} (ho:o.op=.typeAssert x t ty true) (hx:okA x y=true) (ht:concT P ty=true) (he:ev1 key σ.ev σ (.tas ty y)=some e) (hc:cond true σ.ev σ (.tas ty y)):Does P I σ g a w o e:=by
 have v1:=opd hR hx hc
 simp only [ev1] at he
 unfold tasE at he
 split at he
 ·rename_i t1 k m ev
  rw [ev] at v1
  split at he
  ·rename_i htt
   subst htt
   cases he
   have hv:=RV2_v v1
   have hr:(execOp a.eval o).run P w=.ok (.value (.tuple #[.int k m,.bool true])) w:=by
    unfold concT at ht
    cases hu:P.underlying t1 with
    | none=>rw [hu] at ht;cases ht
    | some d=>
     rw [hu] at ht
     simp only [execOp,ho,Instr.typeAssert,Sem.run_bind,run_underlying hu,Result.andThen_ok,hv]
     cases d <;> simp_all
   exact does_quiet hR rfl rfl (v:=.tuple #[.int k m,.bool true]) hr ⟨_,rfl,fun _=>.v _ rfl,fun _=>.v _ rfl,trivial⟩
  ·cases he
 ·cases he
theorem s_nileq (hR:Rel I n σ g a w) {neg:Bool} {t u:TypeId} {x1 x2:Operand} {y:SArg} {sz bs el:Nat} (ho:o.op=.binOp (if neg then .neq else .eql) t x1 x2 u) (ht:elemT P t=some el) (h1:okA x1 y=true) (h2:okA x2 (.nil sz bs)=true)
  (he:ev1 key σ.ev σ (.nileq neg y)=some e) (hc:cond true σ.ev σ (.nileq neg y)):Does P I σ g a w o e:=by
 have v1:=opd hR h1 hc
 simp only [ev1] at he
 cases hel:elems σ (un (σ.ev y)) with
 | none=>rw [hel] at he;cases he
 | some q=>
  obtain ⟨s,b,es⟩:=q
  rw [hel] at he
  cases s with
  | zero=>cases es <;> cases he
  | succ s=>
   cases es with
   | nil=>cases he
   | cons l es=>
    cases he
    have hrd:=elems_spec hR v1 hel
    have hx2:a.eval x2=.slice none 0 0:=by
     cases x2 <;> simp [okA] at h2
     exact nilSl_spec h2
    obtain ⟨ad,n1,c1,hx1⟩:∃ ad n1 c1,a.eval x1=.slice (some ad) n1 c1:=by
     generalize a.eval x1=v at hrd
     cases hrd with
     | sl _ _ _ a0 c vs hc hb hs hl hd=>
      have hl0:l.length=s + 1:=hs l (by simp)
      obtain ⟨d,hd0⟩:∃ d,l[0]? = some d:=⟨l[0],by simp [hl0]⟩
      obtain ⟨ad,rfl,_⟩:=hl 0 0 l d (by simp) hd0
      exact ⟨ad,_,_,rfl⟩
    refine does_quiet hR rfl rfl (v:=.bool neg) ?_ (RV2_mk rfl)
    have heq:(Op.equal t (.slice (some ad) n1 c1) (.slice none 0 0)).run P w=.ok false w:=by
     show (Op.equalIn (9999 + 1) t (.slice (some ad) n1 c1) (.slice none 0 0)).run P w=_
     unfold Op.equalIn
     simp [run_underlying (elemT_spec ht)]
    have hgd:∀ op,(eqGuard op t x1 x2 (.slice (some ad) n1 c1) (.slice none 0 0)).run P w=.ok () w:=fun op=>by
     unfold eqGuard
     split <;> rfl
    cases neg
    ·simp [execOp,ho,hx1,hx2,hgd,binOp,heq]
    ·simp [execOp,ho,hx1,hx2,hgd,binOp,heq]
theorem findNow_int (n:Int):∀ (l:List MapEntry) (ks:List Int),All2 (fun m (x:MapEntry)=>x.key=.int .i64 m) ks l → ∀ i,Instr.findNow (.int .i64) (.int .i64 n) l i=some (match ks.findIdx? (fun m=>m == n) with
  | some j=>some (i + j,(l.getD j default).val)
  | none=>none)
 | [],[],_,i=>rfl
 | x :: l,m :: ks,h,i=>by
  have hx:=h.1
  rw [Instr.findNow,hx]
  simp only [Instr.sameNow,if_true]
  by_cases e:n=m
  ·subst e
   simp [List.findIdx?_cons]
  ·have e':(n == m)=false:=by simpa using e
   have e2:(m == n)=false:=by simp;exact fun h=>e h.symm
   rw [e',List.findIdx?_cons,e2]
   simp only
   rw [findNow_int n l ks h.2 (i + 1)]
   cases ks.findIdx? (fun m=>m == n) with
   | none=>rfl
   | some j=>simp;omega
 | _ :: _,[],h,_=>h.elim
 | [],_ :: _,h,_=>h.elim
def mapKT (P:Program) (t:Nat):Option Nat:=match P.underlying t with
 | some (.map k e)=>match P.underlying k with
  | some (.int .i64)=>some e
  | _=>none
 | _=>none
theorem mapKT_spec {t e:Nat} (h:mapKT P t=some e):∃ k,P.underlying t=some (.map k e) ∧ P.underlying k=some (.int .i64):=by
 unfold mapKT at h
 split at h
 ·rename_i k e' e1
  split at h
  ·rename_i e2;cases h;exact ⟨k,e1,e2⟩
  ·cases h
 ·cases h
theorem run_und {t:Nat} {d:TypeDesc} (h:P.underlying t=some d) (w:World):(underlying t).run P w=.ok d w:=by
 simp [underlying,h]
theorem run_checkKey' {k m:Nat} {v:Value} (em:Bool) (h:P.underlying k=some (.int .i64)) (w:World):(Instr.checkKey em (m + 1) k v).run P w=.ok () w:=by
 unfold Instr.checkKey
 simp only [Sem.run_bind,run_und h,Result.andThen_ok]
 cases v <;> rfl
theorem run_checkKey {k:Nat} {v:Value} (em:Bool) (h:P.underlying k=some (.int .i64)) (w:World):(Instr.checkKey em 10000 k v).run P w=.ok () w:=run_checkKey' (m:=9999) em h w
theorem run_findKey {k:Nat} {n:Int} {l:List MapEntry} {ks:List Int} (h:P.underlying k=some (.int .i64)) (hl:All2 (fun m (x:MapEntry)=>x.key=.int .i64 m) ks l) (w:World) :
  (Instr.findKey k (.int .i64 n) l).run P w=.ok (match ks.findIdx? (fun m=>m == n) with
  | some j=>some (j,(l.getD j default).val)
  | none=>none) w:=by
 simp only [Instr.findKey,Sem.run_bind,run_und h,Result.andThen_ok,findNow_int n l ks hl 0,Nat.zero_add]
 rfl
theorem mob_keys {one:Bool} {es:List (Int × List Cell)} {l:List MapEntry} (h:All2 (ME g w one) es l):All2 (fun m (x:MapEntry)=>x.key=.int .i64 m) (es.map (·.1)) l:=h.map_left _ fun p x hx=>hx.1
theorem find_map (es:List (Int × List Cell)) (n:Int):(es.map (·.1)).findIdx? (fun m=>m == n)=es.findIdx? (fun p=>p.1 == n):=by
 rw [List.findIdx?_map];rfl
def World.putMap (w:World) (b:Nat) (o:Go.Obj):World:={ w with heap:=w.heap.setIfInBounds b o }
theorem run_getO {b cl:Nat} {ar:Array MapEntry} (h:w.heap[b]? = some (.map ar cl)):(getObj b).run P w=.ok (.map ar cl) w:=by simp [getObj,Sem.run,h]
theorem run_setO {b cl:Nat} {ar:Array MapEntry} (o':Go.Obj) (h:w.heap[b]? = some (.map ar cl)):(setObj b o').run P w=.ok () (World.putMap w b o'):=by simp [setObj,Sem.run,h,World.putMap]
theorem putMap_other (w:World) (b k:Nat) (o:Go.Obj) (h:k ≠ b):(World.putMap w b o).heap[k]? = w.heap[k]?:=by
 simp only [World.putMap];rw [Array.getElem?_setIfInBounds_ne (by omega)]
theorem putMap_same (w:World) (b:Nat) (o:Go.Obj) (h:b < w.heap.size):(World.putMap w b o).heap[b]? = some o:=by
 simp [World.putMap,h]
theorem putMap_size (w:World) (b:Nat) (o:Go.Obj):(World.putMap w b o).heap.size=w.heap.size:=by simp [World.putMap]
theorem Step.putMap (hR:Rel I n σ g a w) {k:Nat} {ob0 ob1:Obj} {o:Go.Obj} (hk:σ.ob k=some ob0) (ha:Active g k ob0) (hlt:g.blk k < w.heap.size) (hst:∀ x,¬ g.st (g.blk k) x)
  (hnew:Kp g w g (World.putMap w (g.blk k) o) → ObOK g (World.putMap w (g.blk k) o) k ob1):Step I σ g w [] [(k,ob1)] g (World.putMap w (g.blk k) o):=by
 have hkp:Kp g w g (World.putMap w (g.blk k) o):=⟨fun ad had=>⟨had,World.cell?_of_block (putMap_other w _ _ o fun hbb=>hst _ (hbb ▸ had))⟩,rfl,fun b ty n q hq hf=>shp_blk (putMap_other w _ _ o fun hbb=>hst _ (hbb ▸ hq)) hf⟩
 have one:∀ k' q,[(k,ob1)].lookup k'=some q → k'=k ∧ q=ob1:=fun k' q h=>by
  simp only [List.lookup_cons] at h
  split at h
  ·rename_i hkk;cases h;exact ⟨by simpa using hkk,rfl⟩
  ·simp at h
 have two:∀ k',[(k,ob1)].lookup k'=none → k' ≠ k:=fun k' h hkk=>by subst hkk;simp at h
 have hother:∀ k' o',σ.ob k'=some o' → Active g k' o' → k' ≠ k → g.blk k' ≠ g.blk k:=fun k' o' h ha' hn' hbb=>hn' (hR.sep k' k o' _ h hk ha' ha hbb)
 refine
  {kp:=hkp,agree:=fun _ _=>⟨rfl,rfl,rfl⟩,anew:=fun k h=>by simp at h,puts:=fun k' q h=>?_,keep:=fun k' q h ha' hl _=>⟨putMap_other w _ _ o (hother k' q h ha' (two k' hl)),fun x hx=>hx⟩,sep:=fun k' q h _ k2 q2 h2' ha2 hl _=>?_,seps:=fun k1 k2 q1 q2 h1' h2' _ _ _=>?_,loc:=fun k' q h _=>?_,
   wok:=fun b x h=>by rw [putMap_size];exact hR.wok b x h,os:=rfl,tape:=rfl,out:=rfl,grow:=by rw [putMap_size];omega,frame:=fun b' hb' hm=>⟨putMap_other w _ _ o fun hbb=>?_,fun x=>Iff.rfl⟩ }
 ·obtain ⟨rfl,rfl⟩:=one k' q h;exact hnew hkp
 ·obtain ⟨rfl,rfl⟩:=one k' q h
  exact hother k2 q2 h2' ha2 (two k2 hl)
 ·exact (one k1 q1 h1').1.trans (one k2 q2 h2').1.symm
 ·obtain ⟨rfl,rfl⟩:=one k' q h
  exact hR.loc k' _ hk ha
 ·rcases hR.loc k _ hk ha with h | h
  ·exact hm (hbb ▸ h)
  ·rw [hbb] at hb';omega
theorem All2.mapL {α β γ:Type} {R:α → β → Prop} {S:γ → β → Prop} (f:α → γ):∀ {l:List α} {m:List β},All2 R l m → (∀ a,a ∈ l → ∀ b,R a b → S (f a) b) → All2 S (l.map f) m
 | [],[],_,_=>trivial
 | a :: l,b :: m,r,h=>⟨h a (by simp) b r.1,All2.mapL f r.2 fun x hx=>h x (by simp [hx])⟩
 | [],_ :: _,r,_=>r.elim
 | _ :: _,[],r,_=>r.elim
theorem mcells_spec {one:Bool} {x:AV} {y:Value} {cs:List Cell} (h:RV2 g w x y) (hc:mcells one x=some cs) (hR:Rel I n σ g a w) (hd:(cs.map (toD σ)).all Cell.isD=true):MV g w one (cs.map (toD σ)) y:=by
 cases x with
 | c x=>
  cases x with
  | junk=>simp [mcells] at hc
  | _=>
   cases one <;> simp [mcells] at hc
   subst hc
   refine ⟨_,rfl,?_⟩
   simp only [List.map_cons,List.map_nil,List.all_cons,List.all_nil,Bool.and_true] at hd
   exact isD_spec (toD_spec hR (h (by simp))) hd
 | agg l=>
  cases one <;> simp [mcells] at hc
  subst hc
  obtain ⟨vs,e,hh⟩:=h
  refine ⟨vs,e,?_⟩
  refine hh.mapL _ ?_
  intro c hcm v hv
  exact isD_spec (toD_spec hR hv) (List.all_eq_true.1 hd _ (List.mem_map_of_mem hcm))
 | tup l=>simp [mcells] at hc
 | gd b x=>simp [mcells] at hc
theorem s_mkmap (hR:Rel I n σ g a w) {t:Nat} {one:Bool} (ho:o.op=.makeMap t none) (he:ev1 key σ.ev σ (.mkmap one)=some e):Does P I σ g a w o e:=by
 simp only [ev1,Option.some.injEq] at he
 subst he
 obtain ⟨k1,k2,k3⟩:=g.at_key key w.heap.size undef g.st (pur:=[key]) (by simp)
 refine ⟨w.alloc (.map #[] 0),g.at key w.heap.size undef g.st [key],.map (some w.heap.size),.inl (by simp [execOp,ho,Instr.makeMap]),?_,fun _=>⟨rfl,by rw [k1,hR.tags];exact Nat.le_refl _,fun _=>by rw [k2]⟩⟩
 refine Step.alloc (key:=key) hR _ (S:=fun _=>False) (fun b q=>by simp [Gh.at]) (g.at_agree _ _ _ _ (by simp)) (g.at_anew _ _ _ _) (.inr ⟨_,rfl,?_,fun _=>k2⟩)
 refine ⟨#[],0,by rw [k2];exact heap_new _,by simp,by simp,trivial,by simp,fun q hq=>?_⟩
 rw [k2] at hq
 have:=hR.wok _ _ hq
 omega
theorem ME.all_mono {one:Bool} {es:List (Int × List Cell)} {l:List MapEntry} (h:All2 (ME g w one) es l) (hk:Kp g w g' w'):All2 (ME g' w' one) es l:=h.imp fun p _ x hx=>⟨hx.1,MV.mono hk hx.2⟩
theorem s_mset (hR:Rel I n σ g a w) {x1 x2 x3:Operand} {y1 y2 y3:SArg} {t e0:Nat} {one:Bool} (ho:o.op=.mapUpdate t x1 x2 x3) (h1:okA x1 y1=true) (h2:okA x2 y2=true) (h3:okA x3 y3=true) (ht:mapKT P t=some e0)
  (he:ev1 key σ.ev σ (.mset one y1 y2 y3)=some e) (hc:cond true σ.ev σ (.mset one y1 y2 y3)):Does P I σ g a w o e:=by
 obtain ⟨kt,t1,t2⟩:=mapKT_spec ht
 have v1:=opd hR h1 hc.1
 have v2:=opd hR h2 hc.2.1
 have v3:=opd hR h3 hc.2.2
 simp only [ev1] at he
 split at he
 case h_2=>cases he
 rename_i m em
 split at he
 case h_2=>cases he
 rename_i cs ecs
 unfold msetAt at he
 split at he
 case h_2=>cases he
 rename_i k tt ek
 split at he
 case isFalse=>cases he
 rename_i htg
 split at he
 case h_2=>cases he
 rename_i one' es eo
 split at he
 case isFalse=>cases he
 rename_i hh
 obtain ⟨rfl,hd⟩:=hh
 cases he
 rw [ek] at v1
 have e1:a.eval x1=.map (some (g.blk k)):=(v1 (by simp)).2.2 (by rw [hR.tags];exact htg)
 have e2:a.eval x2=.int .i64 m:=by
  unfold intOf? at em
  split at em
  ·rename_i q eq;cases em;rw [eq] at v2;exact RV2_v v2
  ·cases em
 have e3:=mcells_spec v3 ecs hR hd
 obtain ⟨arr,clock,f1,f2,f3,f4,f5,f6⟩:=hR.obs k _ eo
 have f4:All2 (ME g w one') es arr.toList:=f4
 have hlt:g.blk k < w.heap.size:=(Array.getElem?_eq_some_iff.1 f1).1
 have hfind:=run_findKey (n:=m) t2 (mob_keys f4) w
 rw [find_map] at hfind
 have hlen:=f4.length
 cases hf:es.findIdx? (fun p=>p.1 == m) with
 | none=>
  rw [hf] at hfind
  have hnone:∀ p,p ∈ es → p.1 ≠ m:=fun p hp=>by
   have:=List.findIdx?_eq_none_iff.1 hf p hp
   simpa using this
  let o':Go.Obj:=.map (arr.push { key:=.int .i64 m,val:=a.eval x3,born:=clock }) (clock + 1)
  refine ⟨World.putMap w (g.blk k) o',g,undef,.inr ⟨?_,rfl⟩,Step.putMap hR eo trivial hlt f6 fun hkp=>?_,⟨#[],rfl,trivial⟩⟩
  ·simp [execOp,ho,e1,e2,Instr.mapUpdate,run_und t1,run_getO f1,run_checkKey false t2,hfind,run_setO _ f1,o']
  ·refine ⟨arr.push { key:=.int .i64 m,val:=a.eval x3,born:=clock },clock + 1,putMap_same w _ _ hlt,fun x hx=>?_,?_,?_,?_,f6⟩
   ·simp only [Array.toList_push,List.mem_append,List.mem_singleton] at hx
    rcases hx with hx | rfl
    ·have:=f2 x hx;omega
    ·simp
   ·simp only [Array.toList_push,List.map_append,List.map_cons,List.map_nil]
    rw [List.nodup_append]
    refine ⟨f3,by simp,fun x hx y hy=>?_⟩
    simp only [List.mem_singleton] at hy
    obtain ⟨z,hz,rfl⟩:=List.mem_map.1 hx
    have:=f2 z hz
    omega
   ·have hm:msetL es m (cs.map (toD σ))=es ++ [(m,cs.map (toD σ))]:=by simp only [msetL,hf]
    rw [hm,Array.toList_push]
    exact (ME.all_mono f4 hkp).append ⟨⟨rfl,e3.mono hkp⟩,trivial⟩
   ·have hm:msetL es m (cs.map (toD σ))=es ++ [(m,cs.map (toD σ))]:=by simp only [msetL,hf]
    rw [hm,List.map_append,List.nodup_append]
    refine ⟨f5,by simp,fun x hx y hy=>?_⟩
    simp only [List.map_cons,List.map_nil,List.mem_singleton] at hy
    obtain ⟨z,hz,rfl⟩:=List.mem_map.1 hx
    rw [hy];exact hnone z hz
 | some j=>
  rw [hf] at hfind
  obtain ⟨hj,hjm,_⟩:=List.findIdx?_eq_some_iff_getElem.1 hf
  have hjm:es[j].1=m:=by simpa using hjm
  have hja:j < arr.size:=by simpa using (by omega:j < arr.toList.length)
  obtain ⟨y0,hy0,hy1⟩:=f4.get j es[j] (List.getElem?_eq_getElem hj)
  have hy0':arr[j]? = some y0:=by simpa using hy0
  have hkey:y0.key=.int .i64 m:=by rw [hy1.1,hjm]
  let o':Go.Obj:=.map (arr.modify j fun e=>{ e with key:=.int .i64 m,val:=a.eval x3 }) clock
  have hstay:∀ w:World,(Instr.keyThatStays (.int .i64 m) (.int .i64 m)).run P w=.ok (.int .i64 m) w:=fun w=>by
   simp [Instr.keyThatStays,Instr.sameBits]
  refine ⟨World.putMap w (g.blk k) o',g,undef,.inr ⟨?_,rfl⟩,Step.putMap hR eo trivial hlt f6 fun hkp=>?_,⟨#[],rfl,trivial⟩⟩
  ·simp [execOp,ho,e1,e2,Instr.mapUpdate,run_und t1,run_getO f1,run_checkKey false t2,hfind,run_setO _ f1,o',hy0',hkey,hstay]
  ·have hm:msetL es m (cs.map (toD σ))=es.set j (m,cs.map (toD σ)):=by simp only [msetL,hf]
   have hl:(arr.modify j fun e=>{ e with key:=.int .i64 m,val:=a.eval x3 }).toList=arr.toList.set j { y0 with key:=.int .i64 m,val:=a.eval x3 }:=by
    apply List.ext_getElem?
    intro i
    rw [Array.toList_modify,List.getElem?_modify,List.getElem?_set,Array.getElem?_toList]
    by_cases h:j=i
    ·subst h;rw [hy0'];simp [hja]
    ·simp [h]
   refine ⟨arr.modify j fun e=>{ e with key:=.int .i64 m,val:=a.eval x3 },clock,putMap_same w _ _ hlt,fun x hx=>?_,?_,?_,?_,f6⟩
   ·rw [hl] at hx
    rcases List.mem_or_eq_of_mem_set hx with h | h
    ·exact f2 x h
    ·rw [h];exact f2 y0 (List.mem_of_getElem? hy0)
   ·rw [hl,List.map_set]
    have:(arr.toList.map (·.born)).set j y0.born=arr.toList.map (·.born):=by
     apply List.ext_getElem?
     intro i
     rw [List.getElem?_set]
     split
     ·rename_i h
      subst h
      rw [List.getElem?_map,hy0]
      simp [hja]
     ·rfl
    simp only [this]
    exact f3
   ·rw [hm,hl]
    exact (ME.all_mono f4 hkp).set j ⟨rfl,e3.mono hkp⟩
   ·rw [hm,List.map_set]
    have:(es.map (·.1)).set j m=es.map (·.1):=by
     apply List.ext_getElem?
     intro i
     rw [List.getElem?_set]
     split
     ·rename_i h
      subst h
      rw [List.getElem?_map,List.getElem?_eq_getElem hj]
      simp [hj,hjm]
     ·rfl
    simp only [this]
    exact f5
def zeroM (P:Program) (t:Nat) (one:Bool) (zs:List Cell):Bool:=zeroOK P t zs && match P.info? t with
 | some i=>match i.zero with
  | some (.agg _)=>!one
  | some (.tuple _)=>false
  | some _=>one
  | none=>false
 | none=>false
theorem zeroM_spec {t:Nat} {one:Bool} {zs:List Cell} (h:zeroM P t one zs=true):∃ z,(∀ w:World,(zeroValue t).run P w=.ok z w) ∧ ∀ (g:Gh) (w:World),RV2 g w (mval one (zs.map Cell.plain)) z:=by
 unfold zeroM at h
 simp only [Bool.and_eq_true] at h
 obtain ⟨h0,h1⟩:=h
 unfold zeroOK at h0
 split at h0
 case h_2=>cases h0
 rename_i i hi
 rw [hi] at h1
 split at h0
 case h_2=>cases h0
 rename_i z hz
 simp only [hz] at h1
 refine ⟨z,fun w=>by simp [zeroValue,typeInfo,hi,hz],fun g w=>?_⟩
 have hd:=zs_data h0
 have hl:=zcs_len h0
 cases one with
 | true=>
  have hz1:z.cells.toList=[z]:=by
   cases z <;> simp at h1 <;> rfl
  rw [hz1] at hd hl
  match zs,hl with
  | [c],_=>
   obtain ⟨v,e,hv⟩:=hd 0 c.plain rfl
   simp at e;subst e
   simp only [mval,if_true,List.map_cons,List.map_nil,List.headD_cons]
   have:=hv g w
   intro _
   cases c with
   | v x=>exact this
   | cap sz bs es=>exact this
   | sl sz bs es=>exact this
   | nsl sz bs es=>exact this
   | _=>cases this
 | false=>
  simp only [mval,Bool.false_eq_true,if_false]
  cases z <;> simp at h1
  rename_i vs
  refine ⟨vs,rfl,?_⟩
  have hl:vs.toList.length=zs.length:=hl
  refine All2.mk (by simp at hl;simp [hl]) fun j c v hc hv=>?_
  obtain ⟨v',e1,e2⟩:=hd j c hc
  have e1:vs.toList[j]? = some v':=e1
  rw [hv] at e1;cases e1
  have:=e2 g w
  cases c with
  | v x=>exact this
  | sl sz bs es=>exact this
  | nsl sz bs es=>exact this
  | _=>cases this
theorem RC_of_RD {c:Cell} {v:Value} (h:RD g w c v):RC g w c v:=by
 cases c with
 | v x=>exact h
 | sl sz bs es=>exact h
 | nsl sz bs es=>exact h
 | _=>cases h
theorem mval_spec {one:Bool} {cs:List Cell} {v:Value} (h:MV g w one cs v):RV2 g w (mval one cs) v:=by
 cases one with
 | true=>
  obtain ⟨c,rfl,hc⟩:=h
  exact fun _=>RC_of_RD hc
 | false=>
  obtain ⟨vs,e,hh⟩:=h
  exact ⟨vs,e,hh.imp fun _ _ _ q=>RC_of_RD q⟩
theorem mval_RV1 {one:Bool} {cs:List Cell} {v:Value} (h:RV2 g w (mval one cs) v):RV1 g w (mval one cs) v:=by
 cases one <;> exact h
theorem s_mget (hR:Rel I n σ g a w) {x1 x2:Operand} {y1 y2:SArg} {t e0:Nat} {one ok:Bool} {zs:List Cell} (ho:o.op=.lookup t x1 x2 ok) (h1:okA x1 y1=true) (h2:okA x2 y2=true) (ht:mapKT P t=some e0) (hz:zeroM P e0 one zs=true)
  (he:ev1 key σ.ev σ (.mget one ok zs y1 y2)=some e) (hc:cond true σ.ev σ (.mget one ok zs y1 y2)):Does P I σ g a w o e:=by
 obtain ⟨kt,t1,t2⟩:=mapKT_spec ht
 obtain ⟨z,z1,z2⟩:=zeroM_spec hz
 have v1:=opd hR h1 hc.1
 have v2:=opd hR h2 hc.2
 simp only [ev1] at he
 split at he
 case h_2=>cases he
 rename_i m em
 unfold mgetAt at he
 split at he
 case h_2=>cases he
 rename_i k tt ek
 split at he
 case isFalse=>cases he
 rename_i htg
 split at he
 case h_2=>cases he
 rename_i one' es eo
 split at he
 case isFalse=>cases he
 rename_i hh
 subst hh
 cases he
 rw [ek] at v1
 have e1:a.eval x1=.map (some (g.blk k)):=(v1 (by simp)).2.2 (by rw [hR.tags];exact htg)
 have e2:a.eval x2=.int .i64 m:=by
  unfold intOf? at em
  split at em
  ·rename_i q eq;cases em;rw [eq] at v2;exact RV2_v v2
  ·cases em
 obtain ⟨arr,clock,f1,f2,f3,f4,f5,f6⟩:=hR.obs k _ eo
 have f4:All2 (ME g w one') es arr.toList:=f4
 have hfind:=run_findKey (n:=m) t2 (mob_keys f4) w
 rw [find_map] at hfind
 cases hf:es.findIdx? (fun p=>p.1 == m) with
 | none=>
  rw [hf] at hfind
  have hg:mgetL es m=none:=by
   have:es.find? (fun p=>p.1 == m)=none:=by
    rw [List.find?_eq_none]
    intro p hp
    simpa using List.findIdx?_eq_none_iff.1 hf p hp
   simp [mgetL,this]
  rw [hg]
  cases ok with
  | true=>exact does_quiet hR rfl rfl (by simp [execOp,ho,e1,e2,Instr.lookup,run_und t1,run_getO f1,run_checkKey _ t2,hfind,z1]) ⟨#[z,.bool false],rfl,mval_RV1 (z2 g w),fun _=>.v _ rfl,trivial⟩
  | false=>exact does_quiet hR rfl rfl (by simp [execOp,ho,e1,e2,Instr.lookup,run_und t1,run_getO f1,run_checkKey _ t2,hfind,z1]) (z2 g w)
 | some j=>
  rw [hf] at hfind
  obtain ⟨hj,hjm,hjl⟩:=List.findIdx?_eq_some_iff_getElem.1 hf
  obtain ⟨y0,hy0,hy1⟩:=f4.get j es[j] (List.getElem?_eq_getElem hj)
  have hg:mgetL es m=some es[j].2:=by
   have:es.find? (fun p=>p.1 == m)=some es[j]:=by
    rw [List.find?_eq_some_iff_getElem]
    refine ⟨hjm,j,hj,rfl,fun i hi=>?_⟩
    have:=hjl i hi
    simpa using this
   simp [mgetL,this]
  have hy0':arr[j]? = some y0:=by simpa using hy0
  have hgd:(arr[j]?.getD default)=y0:=by simp [hy0']
  rw [hg]
  have hv:=mval_spec hy1.2
  cases ok with
  | true=>exact does_quiet hR rfl rfl (by simp [execOp,ho,e1,e2,Instr.lookup,run_und t1,run_getO f1,run_checkKey _ t2,hfind,hgd]) ⟨#[y0.val,.bool true],rfl,mval_RV1 hv,fun _=>.v _ rfl,trivial⟩
  | false=>exact does_quiet hR rfl rfl (by simp [execOp,ho,e1,e2,Instr.lookup,run_und t1,run_getO f1,run_checkKey _ t2,hfind,hgd]) hv
end Go.Abs

namespace Go.Abs
variable {P:Program} {I:Init} {n:Nat} {σ:St} {g g':Gh} {a:Act} {w w':World} {o:Oper} {e:Eff} {key:Nat}
def okL:List Operand → List SArg → Bool
 | [],[]=>true
 | x :: xs,y :: ys=>okA x y && okL xs ys
 | _,_=>false
theorem okL_spec:∀ {xs:List Operand} {ys:List SArg},okL xs ys=true → All2 (fun x y=>okA x y=true) xs ys
 | [],[],_=>trivial
 | x :: xs,y :: ys,h=>by simp [okL] at h;exact ⟨h.1,okL_spec h.2⟩
 | [],_ :: _,h=>by simp [okL] at h
 | _ :: _,[],h=>by simp [okL] at h
def isBoolT (P:Program) (t:Nat):Bool:=match P.underlying t with
 | some .bool=>true
 | _=>false
def isIntT (P:Program) (t:Nat) (k:IntKind):Bool:=match P.underlying t with
 | some (.int k')=>decide (k'=k)
 | _=>false
def zeroAny (P:Program) (t:Nat):Bool:=match P.info? t with
 | some i=>i.zero.isSome
 | none=>false
theorem isBoolT_spec {t:Nat} (h:isBoolT P t=true):P.underlying t=some .bool:=by
 unfold isBoolT at h
 split at h
 ·rename_i e;exact e
 ·cases h
theorem isIntT_spec {t:Nat} {k:IntKind} (h:isIntT P t k=true):P.underlying t=some (.int k):=by
 unfold isIntT at h
 split at h
 ·rename_i k' e;simp at h;subst h;exact e
 ·cases h
theorem zeroAny_spec {t:Nat} (h:zeroAny P t=true):∃ z,∀ w:World,(zeroValue t).run P w=.ok z w:=by
 unfold zeroAny at h
 split at h
 ·rename_i i hi
  obtain ⟨z,hz⟩:=Option.isSome_iff_exists.1 h
  exact ⟨z,fun w=>by simp [zeroValue,typeInfo,hi,hz]⟩
 ·cases h
def okF (P:Program) (t i off:Nat) (f:Nat → Bool):Bool:=match fldT P t i with
 | some (off',u)=>decide (off'=off) && f u
 | none=>false
theorem okF_spec {t i off:Nat} {f:Nat → Bool} (h:okF P t i off f=true):∃ u,fldT P t i=some (off,u) ∧ f u=true:=by
 unfold okF at h
 split at h
 ·rename_i off' u e;simp at h;obtain ⟨rfl,h⟩:=h;exact ⟨u,e,h⟩
 ·cases h
def okOp (P:Program):Op → SOp → Bool
 | .move x,.mv y=>okA x y
 | .assign x,.mv y=>okA x y
 | .pick x1 x2 x3,.pick y1 y2 y3=>okA x1 y1 && okA x2 y2 && okA x3 y3
 | .box t x,.box t' y=>decide (t=t') && okA x y
 | .alloc t,.alloc t' zs=>decide (t=t') && zeroOK P t zs
 | .build t ps,.build _ zs qs=>zeroOK P t zs && ((fldsOK P t && okPs P t ps.toList qs) || okArr P t ps.toList qs)
 | .buildSlice t len ps,.lit ty sz _ ys=>decide (elemT P t=some ty) && decide (szT P ty=some sz) && decide (0 < sz) && decide (len=ys.length) && zeroAny P ty && okLit 0 ps.toList ys
 | .load t x,.ld1 _ y=>okA x y && decide (aggT P t=some false)
 | .load t x,.ldf _ y=>okA x y && decide (aggT P t=some false)
 | .load t x,.ldn _ m y=>okA x y && decide (aggT P t=some true) && decide (szT P t=some m)
 | .store t x1 x2,.st1 _ y1 y2=>okA x1 y1 && okA x2 y2 && decide (szT P t=some 1)
 | .store t x1 x2,.stn _ m y1 y2=>okA x1 y1 && okA x2 y2 && decide (szT P t=some m)
 | .nilCheck x,.nilc y=>okA x y
 | .binOp op _ x1 x2 _,.bin op' y1 y2=>decide (op=op') && okA x1 y1 && okA x2 y2
 | .binOp op t x1 x2 _,.beq neg t' y1 y2=>decide (op=if neg then .neq else .eql) && decide (t=t') && isBoolT P t && okA x1 y1 && okA x2 y2
 | .binOp op t x1 x2 _,.aeq neg t' y1 y2=>decide (op=if neg then .neq else .eql) && decide (t=t') && isArr2 P t && okA x1 y1 && okA x2 y2
 | .binOp op t x1 x2 _,.nileq neg y=>decide (op=if neg then .neq else .eql) && (elemT P t).isSome && okA x1 y && okA x2 (.nil 0 0)
 | .unOp .not _ x,.not y=>okA x y
 | .unOp .neg _ x,.neg y=>okA x y
 | .convert t u x,.conv _ _ k y=>okA x y && (P.underlying t).isSome && isIntT P u k
 | .makeFunc (.func f) xs1 xs2,.mkfn f' ys1 ys2=>decide (f=f') && okL xs1.toList ys1 && okL xs2.toList ys2
 | .makeSlice t x1 x2,.mk ty sz bs zs y=>okA x1 y && okA x2 y && decide (elemT P t=some ty) && decide (szT P ty=some sz) && decide (0 < sz) && decide (bsT P ty=some bs) && decide (0 < bs) && zeroOK P ty zs && decide (zs.length=sz)
 | .makeSlice t x1 x2,.mkb ty bs z y=>okA x1 y && okA x2 y && decide (elemT P t=some ty) && decide (szT P ty=some 1) && decide (bsT P ty=some bs) && decide (0 < bs) && zeroOK P ty [z]
 | .slice t x lo hi mx,.slc ty sz _ y lo' hi' mx'=>okA x y && okO lo lo' && okO hi hi' && okO mx mx' && (!mx'.isSome || hi'.isSome) && decide (elemT P t=some ty) && decide (szT P ty=some sz)
 | .slice t x (some lo) none none,.cut ty sz y yl=>okA x y && okA lo yl && decide (elemT P t=some ty) && decide (szT P ty=some sz)
 | .slice t x none (some hi) none,.shr ty sz _ y yh=>okA x y && okA hi yh && decide (elemT P t=some ty) && decide (szT P ty=some sz)
 | .fieldAddr t x i,.fad _ i' off y=>decide (i=i') && okA x y && okF P t i off (fun u=>match szT P u with | some m=>decide (m ≠ 0) | none=>false)
 | .field t x i,.fld1 _ i' off y=>decide (i=i') && okA x y && okF P t i off (fun u=>decide (aggT P u=some false))
 | .field t x i,.fldn _ i' off m y=>decide (i=i') && okA x y && okF P t i off (fun u=>decide (aggT P u=some true) && decide (szT P u=some m))
 | .indexAddr t x1 x2,.iad ty sz y1 y2=>okA x1 y1 && okA x2 y2 && decide (elemT P t=some ty) && decide (szT P ty=some sz) && decide (0 < sz)
 | .indexAddr t x1 x2,.iaa q sz m y1 y2=>okA x1 y1 && okA x2 y2 && decide (arrT P t=some (m,q)) && decide (szT P q=some sz)
 | .makeInterface t x,.mki t' y=>decide (t=t') && okA x y && concT P t
 | .typeAssert x _ t true,.tas t' y=>decide (t=t') && okA x y && concT P t
 | .panic x,.pan y=>okA x y
 | .extract x i,.ext y i'=>decide (i=i') && okA x y
 | .makeMap _ none,.mkmap _=>true
 | .mapUpdate t x1 x2 x3,.mset _ y1 y2 y3=>okA x1 y1 && okA x2 y2 && okA x3 y3 && (mapKT P t).isSome
 | .lookup t x1 x2 ok,.mget one ok' zs y1 y2=>decide (ok=ok') && okA x1 y1 && okA x2 y2 && (match mapKT P t with | some e=>zeroM P e one zs | none=>false)
 | .call c,so=>match c,so with
  | ⟨.builtin .len,xs,ts⟩,.len _ y=>(match xs.toList,ts.toList with | [x],[t]=>okA x y && (elemT P t).isSome | _,_=>false)
  | ⟨.builtin .append,xs,ts⟩,.app ty sz bs y1 y2=>(match xs.toList,ts.toList with
   | [x1,x2],[t,t']=>decide (t=t') && okA x1 y1 && okA x2 y2 && decide (elemT P t=some ty) && decide (szT P ty=some sz) && decide (0 < sz) && decide (bsT P ty=some bs) && decide (0 < bs) && (match P.info? ty with | some i=>(match i.zero with | some z=>decide (z.cells.size=sz) | none=>false) | none=>false)
   | _,_=>false)
  | ⟨.builtin .append,xs,ts⟩,.appm ty sz bs y1 y2=>(match xs.toList,ts.toList with
   | [x1,x2],[t,t']=>decide (t=t') && okA x1 y1 && okA x2 y2 && decide (elemT P t=some ty) && decide (szT P ty=some sz) && decide (0 < sz) && decide (bsT P ty=some bs) && decide (0 < bs) && (match P.info? ty with | some i=>(match i.zero with | some z=>decide (z.cells.size=sz) | none=>false) | none=>false)
   | _,_=>false)
  | ⟨.builtin .append,xs,ts⟩,.appn ty sz bs y1 y2=>(match xs.toList,ts.toList with
   | [x1,x2],[t,t']=>decide (t=t') && okA x1 y1 && okA x2 y2 && decide (elemT P t=some ty) && decide (szT P ty=some sz) && decide (0 < sz) && decide (bsT P ty=some bs) && decide (0 < bs) && (match P.info? ty with | some i=>(match i.zero with | some z=>decide (z.cells.size=sz) | none=>false) | none=>false)
   | _,_=>false)
  | ⟨.builtin .max,xs,_⟩,.best true ys=>okL xs.toList ys
  | ⟨.builtin .min,xs,_⟩,.best false ys=>okL xs.toList ys
  | _,_=>false
 | _,_=>false
theorem arr_eq {α:Type} {xs:Array α} {l:List α} (h:xs.toList=l):xs=l.toArray:=by rw [← h]
theorem okOp_spec (hR:Rel I n σ g a w) {so:SOp} (hok:okOp P o.op so=true) (he:ev1 key σ.ev σ so=some e) (hc:cond true σ.ev σ so):Does P I σ g a w o e:=by
 unfold okOp at hok
 split at hok
 ·rename_i e1;exact s_mv hR (.inl e1) hok he hc
 ·rename_i e1;exact s_mv hR (.inr e1) hok he hc
 ·rename_i e1;simp at hok;exact s_pick hR e1 hok.1.1 hok.1.2 hok.2 he hc
 ·rename_i e1;simp at hok;obtain ⟨rfl,h⟩:=hok;exact s_box hR e1 h he hc
 ·rename_i e1;simp at hok;obtain ⟨rfl,h⟩:=hok;exact s_alloc hR e1 h he
 ·rename_i e1;simp only [Bool.and_eq_true,Bool.or_eq_true] at hok
  obtain ⟨h1,h2 | h2⟩:=hok
  ·exact s_build hR e1 h1 h2.1 h2.2 he hc
  ·exact s_builda hR e1 h1 h2 he hc
 ·rename_i e1;simp at hok;obtain ⟨⟨⟨⟨⟨h1,h2⟩,h3⟩,h4⟩,h5⟩,h6⟩:=hok;exact s_lit hR e1 h1 h2 h3 h4 (zeroAny_spec h5) h6 he hc
 ·rename_i e1;simp at hok;exact s_ld1 hR e1 hok.1 hok.2 he hc
 ·rename_i e1;simp at hok;exact s_ldf hR e1 hok.1 hok.2 he hc
 ·rename_i e1;simp at hok;exact s_ldn hR e1 hok.1.1 hok.1.2 hok.2 he hc
 ·rename_i e1;simp at hok;exact s_st1 hR e1 hok.1.1 hok.1.2 hok.2 he hc
 ·rename_i e1;simp at hok;exact s_stn hR e1 hok.1.1 hok.1.2 hok.2 he hc
 ·rename_i e1;exact s_nilc hR e1 hok he hc
 ·rename_i e1;simp at hok;obtain ⟨⟨rfl,h1⟩,h2⟩:=hok;exact s_bin hR e1 h1 h2 he hc
 ·rename_i e1;simp at hok;obtain ⟨⟨⟨⟨rfl,rfl⟩,h1⟩,h2⟩,h3⟩:=hok;exact s_beq hR e1 (isBoolT_spec h1) h2 h3 he hc
 ·rename_i e1;simp at hok;obtain ⟨⟨⟨⟨rfl,rfl⟩,h1⟩,h2⟩,h3⟩:=hok;exact s_aeq hR e1 h1 h2 h3 he hc
 ·rename_i e1;simp only [Bool.and_eq_true,decide_eq_true_eq] at hok;obtain ⟨⟨⟨rfl,h1⟩,h2⟩,h3⟩:=hok
  obtain ⟨q,hq⟩:=Option.isSome_iff_exists.1 h1
  exact s_nileq hR e1 hq h2 h3 he hc
 ·rename_i e1;exact s_not hR e1 hok he hc
 ·rename_i e1;exact s_neg hR e1 hok he hc
 ·rename_i e1;simp at hok;obtain ⟨⟨h1,h2⟩,h3⟩:=hok;exact s_conv hR e1 h1 h2 (isIntT_spec h3) he hc
 ·rename_i e1;simp at hok;obtain ⟨⟨rfl,h1⟩,h2⟩:=hok;exact s_mkfn hR e1 (okL_spec h1) (okL_spec h2) he hc
 ·rename_i e1;simp at hok;obtain ⟨⟨⟨⟨⟨⟨⟨⟨h1,h2⟩,h3⟩,h4⟩,h5⟩,h6⟩,h7⟩,h8⟩,h9⟩:=hok;exact s_mk hR e1 h1 h2 h3 h4 h5 h6 h7 h8 h9 he hc
 ·rename_i e1;simp at hok;obtain ⟨⟨⟨⟨⟨⟨h1,h2⟩,h3⟩,h4⟩,h5⟩,h6⟩,h7⟩:=hok;exact s_mkb hR e1 h1 h2 h3 h4 h5 h6 h7 he hc
 ·rename_i e1;simp at hok;obtain ⟨⟨⟨⟨⟨⟨h1,h2⟩,h3⟩,h4⟩,h5⟩,h6⟩,h7⟩:=hok
  refine s_slc hR e1 h1 h2 h3 h4 (fun h=>?_) h6 h7 he hc
  rcases h5 with h5 | h5
  ·rw [h5] at h;cases h
  ·exact h5
 ·rename_i e1;simp at hok;obtain ⟨⟨⟨h1,h2⟩,h3⟩,h4⟩:=hok;exact s_cut hR e1 h1 h2 h3 h4 he hc
 ·rename_i e1;simp at hok;obtain ⟨⟨⟨h1,h2⟩,h3⟩,h4⟩:=hok;exact s_shr hR e1 h1 h2 h3 h4 he hc
 ·rename_i e1;simp at hok;obtain ⟨⟨rfl,h1⟩,h2⟩:=hok
  obtain ⟨u,u1,u2⟩:=okF_spec h2
  split at u2
  ·rename_i m em;simp at u2;exact s_fad hR e1 h1 u1 em u2 he hc
  ·cases u2
 ·rename_i e1;simp at hok;obtain ⟨⟨rfl,h1⟩,h2⟩:=hok
  obtain ⟨u,u1,u2⟩:=okF_spec h2
  simp at u2
  exact s_fld1 hR e1 h1 u1 u2 he hc
 ·rename_i e1;simp at hok;obtain ⟨⟨rfl,h1⟩,h2⟩:=hok
  obtain ⟨u,u1,u2⟩:=okF_spec h2
  simp at u2
  exact s_fldn hR e1 h1 u1 u2.1 u2.2 he hc
 ·rename_i e1;simp at hok;obtain ⟨⟨⟨⟨h1,h2⟩,h3⟩,h4⟩,h5⟩:=hok;exact s_iad hR e1 h1 h2 h3 h4 h5 he hc
 ·rename_i e1;simp at hok;obtain ⟨⟨⟨h1,h2⟩,h3⟩,h4⟩:=hok;exact s_iaa hR e1 h1 h2 h3 h4 he hc
 ·rename_i e1;simp at hok;obtain ⟨⟨rfl,h1⟩,h2⟩:=hok;exact s_mki hR e1 h1 h2 he hc
 ·rename_i e1;simp at hok;obtain ⟨⟨rfl,h1⟩,h2⟩:=hok;exact s_tas hR e1 h1 h2 he hc
 ·simp only [ev1] at he;cases he
 ·rename_i e1;simp at hok;obtain ⟨rfl,h1⟩:=hok;exact s_ext hR e1 h1 he hc
 ·rename_i e1;exact s_mkmap hR e1 he
 ·rename_i e1;simp only [Bool.and_eq_true] at hok
  obtain ⟨⟨⟨h1,h2⟩,h3⟩,h4⟩:=hok
  obtain ⟨q,hq⟩:=Option.isSome_iff_exists.1 h4
  exact s_mset hR e1 h1 h2 h3 hq he hc
 ·rename_i e1;simp only [Bool.and_eq_true,decide_eq_true_eq] at hok
  obtain ⟨⟨⟨rfl,h1⟩,h2⟩,h3⟩:=hok
  split at h3
  ·rename_i e0 he0;exact s_mget hR e1 h1 h2 he0 h3 he hc
  ·cases h3
 ·rename_i c so e1
  split at hok
  ·rename_i xs ts t' y
   split at hok
   ·rename_i x t ex et
    simp at hok
    rw [arr_eq ex,arr_eq et] at e1
    obtain ⟨q,hq⟩:=Option.isSome_iff_exists.1 hok.2
    exact s_len hR e1 hq hok.1 he hc
   ·cases hok
  ·rename_i xs ts ty sz bs y1 y2
   split at hok
   ·rename_i x1 x2 t t' ex et
    simp at hok
    obtain ⟨⟨⟨⟨⟨⟨⟨⟨rfl,h1⟩,h2⟩,h3⟩,h4⟩,h5⟩,h6⟩,h7⟩,h8⟩:=hok
    rw [arr_eq ex,arr_eq et] at e1
    refine s_app hR e1 h1 h2 h3 h4 h5 h6 h7 ?_ he hc
    split at h8
    ·rename_i i hi
     split at h8
     ·rename_i z hz;exact ⟨i,z,hi,hz,by simpa using h8⟩
     ·cases h8
    ·cases h8
   ·cases hok
  ·rename_i xs ts ty sz bs y1 y2
   split at hok
   ·rename_i x1 x2 t t' ex et
    simp at hok
    obtain ⟨⟨⟨⟨⟨⟨⟨⟨rfl,h1⟩,h2⟩,h3⟩,h4⟩,h5⟩,h6⟩,h7⟩,h8⟩:=hok
    rw [arr_eq ex,arr_eq et] at e1
    refine s_appm hR e1 h1 h2 h3 h4 h5 h6 h7 ?_ he hc
    split at h8
    ·rename_i i hi
     split at h8
     ·rename_i z hz;exact ⟨i,z,hi,hz,by simpa using h8⟩
     ·cases h8
    ·cases h8
   ·cases hok
  ·rename_i xs ts ty sz bs y1 y2
   split at hok
   ·rename_i x1 x2 t t' ex et
    simp at hok
    obtain ⟨⟨⟨⟨⟨⟨⟨⟨rfl,h1⟩,h2⟩,h3⟩,h4⟩,h5⟩,h6⟩,h7⟩,h8⟩:=hok
    rw [arr_eq ex,arr_eq et] at e1
    refine s_appn hR e1 h1 h2 h3 h4 h5 h6 h7 ?_ he hc
    split at h8
    ·rename_i i hi
     split at h8
     ·rename_i z hz;exact ⟨i,z,hi,hz,by simpa using h8⟩
     ·cases h8
    ·cases h8
   ·cases hok
  ·rename_i xs ts ys
   exact s_best (mx:=true) hR e1 (okL_spec hok) he hc
  ·rename_i xs ts ys
   exact s_best (mx:=false) hR e1 (okL_spec hok) he hc
  ·cases hok
 ·cases hok
end Go.Abs

namespace Go.Abs
variable {P:Program} {I:Init} {n:Nat} {σ:St} {g g':Gh} {a:Act} {w w':World} {o:Oper} {e:Eff} {key:Nat}
def EntersF (P:Program) (f:Nat):Prop:=∀ (args:Array Value) (w:World),(callFunc f args).run P w=.ok (.enter f args) w
abbrev Objs:=List (Nat × Nat × Obj)
structure ObsOK (g:Gh) (w:World) (l:Objs):Prop where
 ok:∀ k t q,l.lookup k=some (t,q) → g.tg k=t ∧ ObOK g w k q
 sep:∀ k k' t t' q q',l.lookup k=some (t,q) → l.lookup k'=some (t',q') → Active g k q → Active g k' q' → g.blk k=g.blk k' → k=k'
def mineOf (g:Gh) (l:Objs) (b:Nat):Prop:=∃ k t q,l.lookup k=some (t,q) ∧ Active g k q ∧ g.blk k=b
structure Post (g:Gh) (w:World) (ins:Objs) (g':Gh) (w':World) (res:AV) (v:Value) (outs:Objs):Prop where
 res:RV2 g' w' res v
 obs:ObsOK g' w' outs
 kp:Kp g w g' w'
 wok:∀ b o,g'.st b o → b < w'.heap.size
 os:w'.os=w.os
 tape:w'.tape=w.tape
 out:w'.output=w.output
 grow:w.heap.size ≤ w'.heap.size
 frame:∀ b,b < w.heap.size → ¬ mineOf g ins b → w'.heap[b]? = w.heap[b]? ∧ ∀ o,g'.st b o ↔ g.st b o
 loc:∀ k t q,outs.lookup k=some (t,q) → Active g' k q → mineOf g ins (g'.blk k) ∨ w.heap.size ≤ g'.blk k
 box:∀ k t,g.tg k=t → (∃ q,ins.lookup k=some (t,q)) → (∃ q,outs.lookup k=some (t,q)) → g'.blk k=g.blk k ∧ g'.rv k=g.rv k
def LoOK (g:Gh) (w:World) (ins:Objs):Prop:=g.lo ≤ w.heap.size ∧ ∀ b,mineOf g ins b → g.lo ≤ b
def Spec (P:Program) (f:Nat) (args:List AV) (ins:Objs) (res:AV) (outs:Objs):Prop:=
 EntersF P f ∧ ∀ (g:Gh) (w:World) (vs:Array Value),(∀ b o,g.st b o → b < w.heap.size) → LoOK g w ins → All2 (RV2 g w) args vs.toList → ObsOK g w ins →
  Calls P f vs w fun e w'=>∃ v g',e=.returned v ∧ Post g w ins g' w' res v outs
def Fn (P:Program) (f:Nat) (args:List AV) (res:AV):Prop:=Spec P f args [] res []
def Wk (x y:AV):Prop:=∀ (g:Gh) (w:World) (v:Value),RV2 g w x v → RV2 g w y v
theorem Spec.weak {f:Nat} {args args':List AV} {ins outs:Objs} {res:AV} (h:Spec P f args ins res outs) (hw:All2 Wk args' args):Spec P f args' ins res outs:=
 ⟨h.1,fun g w vs h1 h2 h3 h4=>h.2 g w vs h1 h2 (by
  have key:∀ {l l':List AV} {vs:List Value},All2 Wk l' l → All2 (RV2 g w) l' vs → All2 (RV2 g w) l vs:=by
   intro l l'
   induction l' generalizing l with
   | nil=>intro vs h1 h2;cases l;cases vs;trivial;exact h2.elim;exact h1.elim
   | cons x l' ih=>
    intro vs h1 h2
    cases l with
    | nil=>exact h1.elim
    | cons y l=>
     cases vs with
     | nil=>exact h2.elim
     | cons v vs=>exact ⟨h1.1 g w v h2.1,ih h1.2 h2.2⟩
  exact key hw h3) h4⟩
theorem Wk.refl (x:AV):Wk x x:=fun _ _ _ h=>h
def Real (x:AV):Prop:=∃ g w v,RV2 g w x v
def refs (l:List (Nat × Nat)):List AV:=l.map fun k=>.c (.ref k.1 k.2 0)
def toD2 (σ:St):AV → AV
 | .tup l=>.tup l
 | x=>toD1 σ x
def keysOk (keys:List Nat) (outs:Objs):Prop:=∀ k,k ∈ keys → (outs.lookup k).isSome=true
def objsOf (l:Objs):List (Nat × Obj):=l.map fun x=>(x.1,x.2.2)
theorem lookup_objsOf {l:Objs} {k:Nat}:(objsOf l).lookup k=(l.lookup k).map (·.2):=by
 induction l with
 | nil=>rfl
 | cons x l ih=>
  obtain ⟨k',t,q⟩:=x
  simp only [objsOf,List.map_cons,List.lookup_cons] at ih ⊢
  split <;> simp_all
structure CallSem (P:Program) (σ:St) (β:Bool) (fv:AV) (xs:List AV) (f:Nat) (k1 k2:List (Nat × Nat)) (ins outs:Objs) (res:AV) (pur:List Nat):Prop where
 c0:un fv=.c (.clo f k1 k2)
 gf:gok β fv
 gx:∀ x,x ∈ xs → gok β x
 cs:β=true → Spec P f (refs k1 ++ xs.map (fun x=>toD2 σ (un x)) ++ refs k2) ins res outs
 ci:∀ k t q,ins.lookup k=some (t,q) → σ.ob k=some q ∧ σ.tg k=t ∧ (outs.lookup k).isSome=true
 co:∀ k t q,outs.lookup k=some (t,q) → (k ∈ pur ∧ t=σ.tg k + 1) ∨ (k ∉ pur ∧ t=σ.tg k ∧ ∃ q',ins.lookup k=some (t,q'))
 cp:∀ k,k ∈ pur → (outs.lookup k).isSome=true
 kres:keysOk res.keys2 outs
 kobs:∀ (k t:Nat) (q:Obj),outs.lookup k=some (t,q) → keysOk q.keys outs
theorem Rel.loOK (hR:Rel I n σ g a w) {ins:Objs} (h:∀ k t q,ins.lookup k=some (t,q) → σ.ob k=some q):LoOK g w ins:=by
 refine ⟨by rw [hR.kp.lo];exact Nat.le_trans hR.los.1 hR.grow,fun b ⟨k,t,q,h1,h2,h3⟩=>?_⟩
 rw [hR.kp.lo,← h3]
 rcases hR.loc k q (h k t q h1) h2 with h | h
 ·exact hR.los.2 _ h
 ·exact Nat.le_trans hR.los.1 h
theorem RC.on {c:Cell} {y:Value} (h:RC g w c y) (hk:Kp g w g' w') (ha:∀ k,k ∈ c.keys → g'.tg k=g.tg k ∧ g'.blk k=g.blk k ∧ g'.rv k=g.rv k):RC g' w' c y:=by
 cases c with
 | v x=>exact RD.mono hk h
 | sl sz bs es=>exact RD.mono hk h
 | cap sz bs es=>exact ⟨RD.mono hk h.1,h.2⟩
 | ref k t off=>
  obtain ⟨a1,a2,a3⟩:=ha k (by simp [Cell.keys])
  exact ⟨h.1,by rw [a1];exact h.2.1,fun ht=>by rw [a1] at ht;simp only [ptr,a2];exact h.2.2 ht⟩
 | own k t=>
  obtain ⟨a1,a2,a3⟩:=ha k (by simp [Cell.keys])
  exact ⟨h.1,by rw [a1];exact h.2.1,fun ht=>by rw [a1] at ht;rw [a3];exact h.2.2 ht⟩
 | elp cs j=>
  obtain ⟨ad,e,hh⟩:=h
  refine ⟨ad,e,fun i d hd=>?_⟩
  obtain ⟨x,h1,h2⟩:=hh i d hd
  exact ⟨x,hk.lies h1,h2.mono hk⟩
 | elw k t sz i j=>
  obtain ⟨a1,a2,a3⟩:=ha k (by simp [Cell.keys])
  exact ⟨h.1,by rw [a1];exact h.2.1,fun ht=>by rw [a1] at ht;simp only [ptr,a2];exact h.2.2 ht⟩
 | mp k t=>
  obtain ⟨a1,a2,a3⟩:=ha k (by simp [Cell.keys])
  exact ⟨h.1,by rw [a1];exact h.2.1,fun ht=>by rw [a1] at ht;rw [a2];exact h.2.2 ht⟩
 | itr f k t=>
  obtain ⟨a1,a2,a3⟩:=ha k (by simp [Cell.keys])
  refine ⟨h.1,by rw [a1];exact h.2.1,fun ht=>?_⟩
  rw [a1] at ht
  obtain ⟨b,e1,e2⟩:=h.2.2 ht
  exact ⟨b,e1,by rw [a2];exact hk.lies e2⟩
 | bk f sz bs es=>
  obtain ⟨b,x,e,h1,h2⟩:=h
  exact ⟨b,x,e,hk.lies h1,h2.mono hk⟩
 | ifc ty k t=>
  obtain ⟨a1,a2,a3⟩:=ha k (by simp [Cell.keys])
  exact ⟨h.1,by rw [a1];exact h.2.1,fun ht=>by rw [a1] at ht;simp only [ptr,a2];exact h.2.2 ht⟩
 | sob k t n=>
  obtain ⟨a1,a2,a3⟩:=ha k (by simp [Cell.keys])
  exact ⟨h.1,by rw [a1];exact h.2.1,fun ht=>by rw [a1] at ht;rw [a2];exact h.2.2 ht⟩
 | clo f k1 k2=>
  obtain ⟨v1,v2,e,r1,r2⟩:=h
  have one:∀ k:Nat × Nat,k.1 ∈ (Cell.clo f k1 k2).keys → ∀ y,IsRef g k y → IsRef g' k y:=fun k hm y r=>by
   obtain ⟨a1,a2,a3⟩:=ha k.1 hm
   exact ⟨r.1,by rw [a1];exact r.2.1,fun ht=>by rw [a1] at ht;simp only [ptr,a2];exact r.2.2 ht⟩
  refine ⟨v1,v2,e,r1.imp fun k hm y r=>one k ?_ y r,r2.imp fun k hm y r=>one k ?_ y r⟩
  ·simp only [Cell.keys,List.mem_append,List.mem_map];exact .inl ⟨k,hm,rfl⟩
  ·simp only [Cell.keys,List.mem_append,List.mem_map];exact .inr ⟨k,hm,rfl⟩
 | junk=>exact h
 | nsl sz bs es=>exact RD.mono hk h
 | elx ad cs=>exact ⟨h.1,fun i d hd=>by obtain ⟨x,h1,h2⟩:=h.2 i d hd;exact ⟨x,hk.lies h1,h2.mono hk⟩⟩
theorem RV1.on {x:AV} {y:Value} (h:RV1 g w x y) (hk:Kp g w g' w') (ha:∀ k,k ∈ x.keys1 → g'.tg k=g.tg k ∧ g'.blk k=g.blk k ∧ g'.rv k=g.rv k):RV1 g' w' x y:=by
 cases x with
 | c x=>exact fun hx=>(h hx).on hk ha
 | agg cs=>
  obtain ⟨vs,e,hh⟩:=h
  exact ⟨vs,e,hh.imp fun c hc y r=>r.on hk fun k hkk=>ha k (List.mem_flatMap.2 ⟨c,hc,hkk⟩)⟩
 | tup l=>exact h.elim
 | gd b x=>exact h.elim
theorem RV2.on {x:AV} {y:Value} (h:RV2 g w x y) (hk:Kp g w g' w') (ha:∀ k,k ∈ x.keys2 → g'.tg k=g.tg k ∧ g'.blk k=g.blk k ∧ g'.rv k=g.rv k):RV2 g' w' x y:=by
 cases x with
 | c x=>exact RV1.on (x:=.c x) h hk ha
 | agg cs=>exact RV1.on (x:=.agg cs) h hk ha
 | tup l=>
  obtain ⟨vs,e,hh⟩:=h
  exact ⟨vs,e,hh.imp fun c hc y r=>r.on hk fun k hkk=>ha k (List.mem_flatMap.2 ⟨c,hc,hkk⟩)⟩
 | gd b x=>exact h.elim
theorem ObOK.on {k:Nat} {q:Obj} (h:ObOK g w k q) (hk:Kp g w g' w') (hw:w'=w) (hst:g'.st=g.st) (hh:g'.blk k=g.blk k ∧ g'.rv k=g.rv k) (ha:∀ k,k ∈ q.keys → g'.tg k=g.tg k ∧ g'.blk k=g.blk k ∧ g'.rv k=g.rv k):ObOK g' w' k q:=by
 subst hw
 cases q with
 | box ty cs=>
  obtain ⟨vs,e,h1,h2⟩:=h
  exact ⟨vs,by rw [hh.1];exact e,h1.imp fun c hc y r=>r.on hk fun k' hk'=>ha k' (List.mem_flatMap.2 ⟨c,hc,hk'⟩),by rw [hst,hh.1];exact h2⟩
 | row ty sz bs es=>
  refine ⟨by rw [hh.2];exact h.1.mono hk,fun p m c h1 h2=>?_⟩
  rw [hh.2] at h1
  rw [hh.1,hst]
  exact h.2 p m c h1 h2
 | cut ty sz bs es=>
  obtain ⟨f,h⟩:=h
  refine ⟨f,by rw [hh.2];exact h.1.mono hk,fun p m c h1 h2=>?_⟩
  rw [hh.2] at h1
  rw [hh.1,hst]
  exact h.2 p m c h1 h2
 | mrow ty sz bs es=>
  obtain ⟨arr,c,h1,h2,h3,h4,h5,h6,h7,h8⟩:=h
  refine ⟨arr,c,by rw [hh.1,hh.2];exact h1,h2,by rw [hh.1];exact h3,h4,h5,h6,fun i j l d p1 p2=>?_,by rw [hst,hh.1];exact h8⟩
  obtain ⟨x,q1,q2⟩:=h7 i j l d p1 p2
  exact ⟨x,q1,q2.mono hk⟩
 | mob one es=>
  obtain ⟨arr,c,h1,h2,h3,h4,h5,h6⟩:=h
  exact ⟨arr,c,by rw [hh.1];exact h1,h2,h3,h4.imp fun p hp x hx=>⟨hx.1,MV.mono hk hx.2⟩,h5,by rw [hst,hh.1];exact h6⟩
theorem toD2_spec (hR:Rel I n σ g a w) {x:AV} {y:Value} (h:RV2 g w x y):RV2 g w (toD2 σ x) y:=by
 cases x with
 | c x=>
  intro hx
  by_cases e:x=.junk
  ·subst e;simp [toD] at hx
  ·exact toD_spec hR (h e)
 | agg cs=>obtain ⟨vs,e,hh⟩:=h;exact ⟨vs,e,hh.map_left _ fun c v hcv=>toD_spec hR hcv⟩
 | tup l=>exact h
 | gd b x=>exact h
theorem call_step (hR:Rel I n σ g a w) {β:Bool} {fv:AV} {xs:List AV} {f:Nat} {k1 k2:List (Nat × Nat)} {ins outs:Objs} {res:AV} {pur:List Nat} {v:Value} (hC:CallSem P σ β fv xs f k1 k2 ins outs res pur) (hp:Post g w ins g' w' res v outs) :
  ∃ g2,Step I σ g w pur (objsOf outs) g2 w' ∧ RV2 g2 w' res v:=by
 let g2:Gh:=⟨g'.st,fun k=>if (outs.lookup k).isSome then g'.blk k else g.blk k,fun k=>if (outs.lookup k).isSome then g'.rv k else g.rv k,fun k=>if (outs.lookup k).isSome then g'.tg k else g.tg k,g.lo⟩
 have hin:∀ k,(outs.lookup k).isSome=true → g2.tg k=g'.tg k ∧ g2.blk k=g'.blk k ∧ g2.rv k=g'.rv k:=fun k hk=>by simp [g2,hk]
 have hno:∀ k,outs.lookup k=none → g2.tg k=g.tg k ∧ g2.blk k=g.blk k ∧ g2.rv k=g.rv k:=fun k hk=>by simp [g2,hk]
 have hk2:Kp g' w' g2 w':=⟨fun ad h=>⟨h,rfl⟩,hp.kp.lo.symm,fun _ _ _ _ _ h=>h⟩
 have hkp:Kp g w g2 w':=⟨fun ad h=>hp.kp.keep ad h,rfl,hp.kp.kf⟩
 have lk:∀ k q,(objsOf outs).lookup k=some q → ∃ t,outs.lookup k=some (t,q):=fun k q h=>by
  rw [lookup_objsOf] at h
  obtain ⟨⟨t,q'⟩,h1,rfl⟩:=Option.map_eq_some_iff.1 h
  exact ⟨t,h1⟩
 have lkn:∀ k,(objsOf outs).lookup k=none → outs.lookup k=none:=fun k h=>by
  rw [lookup_objsOf] at h
  cases hh:outs.lookup k with
  | none=>rfl
  | some x=>rw [hh] at h;cases h
 have hagree:∀ k,k ∉ pur → g2.tg k=g.tg k ∧ g2.blk k=g.blk k ∧ g2.rv k=g.rv k:=fun k hk=>by
  cases hh:outs.lookup k with
  | none=>exact hno k hh
  | some x=>
   obtain ⟨t,q⟩:=x
   rcases hC.co k t q hh with h | ⟨_,h1,q',h2⟩
   ·exact absurd h.1 hk
   ·have h3:=(hp.obs.ok k t q hh).1
    have h4:=hp.box k t (by rw [hR.tags];exact h1.symm) ⟨q',h2⟩ ⟨q,hh⟩
    obtain ⟨e1,e2,e3⟩:=hin k (by rw [hh];rfl)
    exact ⟨by rw [e1,h3,hR.tags];exact h1,by rw [e2];exact h4.1,by rw [e3];exact h4.2⟩
 have hact:∀ k q,(outs.lookup k).isSome=true → (Active g2 k q ↔ Active g' k q):=fun k q hk=>by
  cases q with
  | row=>simp only [Active];rw [(hin k hk).2.2]
  | cut=>simp only [Active];rw [(hin k hk).2.2]
  | _=>exact Iff.rfl
 have hmine:∀ b,mineOf g ins b → ∃ k q,σ.ob k=some q ∧ Active g k q ∧ g.blk k=b ∧ (outs.lookup k).isSome=true:=fun b ⟨k,t,q,h1,h2,h3⟩=>⟨k,q,(hC.ci k t q h1).1,h2,h3,(hC.ci k t q h1).2.2⟩
 have hnot:∀ k q,σ.ob k=some q → Active g k q → outs.lookup k=none → ¬ mineOf g ins (g.blk k):=fun k q h1 h2 h3 h4=>by
  obtain ⟨k',q',e1,e2,e3,e4⟩:=hmine _ h4
  have:=hR.sep k' k q' q e1 h1 e2 h2 e3
  subst this
  rw [h3] at e4;cases e4
 refine ⟨g2,
  {kp:=hkp,agree:=hagree,anew:=fun k hk=>?_,puts:=fun k q h=>?_,keep:=fun k q h ha hl hk=>?_,sep:=fun k q h ha k' q' h' ha' hl' hk' hbb=>?_,seps:=fun k k' q q' h h' ha ha' hbb=>?_,loc:=fun k q h ha=>?_,
   wok:=hp.wok,os:=hp.os,tape:=hp.tape,out:=hp.out,grow:=hp.grow,frame:=fun b hb hm=>?_ },hp.res.on hk2 fun k hk=>hin k (hC.kres k hk)⟩
 ·obtain ⟨⟨t,q⟩,hh⟩:=Option.isSome_iff_exists.1 (hC.cp k hk)
  rcases hC.co k t q hh with ⟨_,h⟩ | ⟨h,_⟩
  ·rw [(hin k (by rw [hh];rfl)).1,(hp.obs.ok k t q hh).1,h,hR.tags]
  ·exact absurd hk h
 ·obtain ⟨t,hh⟩:=lk k q h
  have:=hin k (by rw [hh];rfl)
  exact (hp.obs.ok k t q hh).2.on hk2 rfl rfl this.2 fun k' hk'=>hin k' (hC.kobs k t q hh k' hk')
 ·have hl:=lkn k hl
  have hb:=act_lt (hR.obs k q h) ha
  have:=hp.frame _ hb (hnot k q h ha hl)
  exact ⟨this.1,fun x hx=>(this.2 x).1 hx⟩
 ·obtain ⟨t,hh⟩:=lk k q h
  have hs:(outs.lookup k).isSome=true:=by rw [hh];rfl
  have hl':=lkn k' hl'
  have hb':=act_lt (hR.obs k' q' h') ha'
  rw [(hin k hs).2.1] at hbb
  rcases hp.loc k t q hh ((hact k q hs).1 ha) with h1 | h1
  ·rw [← hbb] at h1;exact hnot k' q' h' ha' hl' h1
  ·rw [← hbb] at h1;omega
 ·obtain ⟨t,hh⟩:=lk k q h
  obtain ⟨t',hh'⟩:=lk k' q' h'
  have hs:(outs.lookup k).isSome=true:=by rw [hh];rfl
  have hs':(outs.lookup k').isSome=true:=by rw [hh'];rfl
  rw [(hin k hs).2.1,(hin k' hs').2.1] at hbb
  exact hp.obs.sep k k' t t' q q' hh hh' ((hact k q hs).1 ha) ((hact k' q' hs').1 ha') hbb
 ·obtain ⟨t,hh⟩:=lk k q h
  have hs:(outs.lookup k).isSome=true:=by rw [hh];rfl
  rw [(hin k hs).2.1]
  rcases hp.loc k t q hh ((hact k q hs).1 ha) with h1 | h1
  ·obtain ⟨k',q',e1,e2,e3,_⟩:=hmine _ h1
   rw [← e3];exact hR.loc k' q' e1 e2
  ·exact .inr (Nat.le_trans hR.grow h1)
 ·have hb':b < w.heap.size:=Nat.lt_of_lt_of_le hb hR.grow
  refine hp.frame b hb' fun hmi=>?_
  obtain ⟨k',q',e1,e2,e3,_⟩:=hmine _ hmi
  rcases hR.loc k' q' e1 e2 with h | h
  ·rw [e3] at h;exact hm h
  ·rw [e3] at h;omega
end Go.Abs

namespace Go.Abs
variable {P:Program} {I:Init} {n:Nat} {σ:St} {g g':Gh} {a:Act} {w w':World} {o:Oper} {e:Eff} {key:Nat}
def gb (x:AV) (want:Bool):Option Bool:=match x with
 | .c (.v (.bool b))=>some (b == want)
 | .gd b' (.c (.v (.bool b)))=>some (b' && (b == want))
 | .tup []=>some false
 | _=>none
def boolOf:Value → Option Bool
 | .bool b=>some b
 | _=>none
theorem yielded_of {ops:Array Oper} {a:Act} {j s:Nat} {o':Oper} (hj:ops[j]? = some o') (hd:o'.dst=some s) (hs:s < a.tmps.size):yielded ops a.tmps j=boolOf (a.tmps.getD s undef):=by
 have h:a.tmps[s]? = some (a.tmps.getD s undef):=by
  rw [Array.getD_eq_getD_getElem?,Array.getElem?_eq_getElem hs];rfl
 unfold yielded
 simp only [hj,Option.bind_some,hd,h]
 unfold boolOf
 split <;> simp_all
theorem gb_spec {ops:Array Oper} {j s:Nat} {o':Oper} {want β:Bool} (hR:Rel I n σ g a w) (ho:o.guard=some (j,want)) (hj:ops[j]? = some o') (hd:o'.dst=some s) (hs:s < n) (h:gb (σ.sl s) want=some β) :
  Region.wanted o (yielded ops a.tmps)=β:=by
 have hv:=hR.slots s
 have hy:=yielded_of (a:=a) hj hd (by rw [hR.size];exact hs)
 unfold Region.wanted
 simp only [ho,hy]
 unfold gb at h
 split at h
 ·rename_i b e
  cases h
  rw [e] at hv
  have:=RV2_v hv
  rw [this]
  cases b <;> cases want <;> rfl
 ·rename_i b' b e
  cases h
  rw [e] at hv
  simp only [RV] at hv
  cases b'
  ·have hv:a.tmps.getD s undef=undef:=by simpa only [Bool.false_eq_true,if_false] using hv
   rw [hv];cases want <;> rfl
  ·have hv:RV2 g w (.c (.v (.bool b))) (a.tmps.getD s undef):=by simpa only [if_true] using hv
   have:=RV2_v hv
   rw [this]
   cases b <;> cases want <;> rfl
 ·rename_i e
  cases h
  rw [e] at hv
  obtain ⟨vs,e1,e2⟩:=hv
  rw [e1]
  cases want <;> rfl
 ·cases h
def mkGd (gd:Option (Nat × Bool)) (β:Bool) (x:AV):AV:=match gd with
 | none=>x
 | some _=>.gd β x
def gdOf (σ:St):Option (Nat × Bool) → Option Bool
 | none=>some true
 | some (s,want)=>gb (σ.sl s) want
def gdD0:Eff:=Eff.pure (.c (.v (.bool false)))
def evG (gd:Option (Nat × Bool)) (β:Bool):Option Eff → Option Eff
 | some e=>some e
 | none=>match gd with
  | some _=>if β then none else some gdD0
  | none=>none
def condG (gd:Option (Nat × Bool)) (c:Prop):Option Eff → Prop
 | some _=>c
 | none=>match gd with
  | some _=>True
  | none=>c
@[simp] theorem evG_none (β:Bool) (o:Option Eff):evG none β o=o:=by cases o <;> rfl
@[simp] theorem condG_none (c:Prop) (o:Option Eff):condG none c o=c:=by cases o <;> rfl
theorem condG_imp {gd:Option (Nat × Bool)} {c c':Prop} {o:Option Eff} (h:c → c') (hc:condG gd c o):condG gd c' o:=by
 cases o with
 | some e=>exact h hc
 | none=>
  cases gd with
  | some g=>trivial
  | none=>exact h hc
theorem evG_true {gd:Option (Nat × Bool)} {o:Option Eff} {e:Eff} {c:Prop} (h:evG gd true o=some e) (hc:condG gd c o):o=some e ∧ c:=by
 cases o with
 | some e'=>exact ⟨h,hc⟩
 | none=>cases gd <;> simp [evG] at h
def PutOf (ins outs:Objs) (pur:List Nat) (ps:List (Nat × Obj)):Prop:=ps=objsOf outs ∨ (ps=[] ∧ outs=ins ∧ pur=[])
def gE (β:Bool) (e:Eff):Eff:=⟨.gd β e.val,if β then e.pur else [],if β then e.put else [],e.rd⟩
def gEff:Option (Nat × Bool) → Bool → Eff → Eff
 | none,_,e=>e
 | some _,β,e=>gE β e
@[simp] theorem gEff_none (β:Bool) (e:Eff):gEff none β e=e:=rfl
@[simp] theorem gEff_some (q:Nat × Bool) (β:Bool) (e:Eff):gEff (some q) β e=gE β e:=rfl
theorem gEff_t (gd:Option (Nat × Bool)) (e:Eff):(gEff gd true e).val=mkGd gd true e.val ∧ (gEff gd true e).pur=e.pur ∧ (gEff gd true e).put=e.put:=by
 cases gd <;> simp [gE,mkGd]
theorem gEff_f {gd:Option (Nat × Bool)} (h:gd ≠ none) (e:Eff):(gEff gd false e).val=mkGd gd false e.val ∧ (gEff gd false e).pur=[] ∧ (gEff gd false e).put=[]:=by
 cases gd with
 | none=>exact absurd rfl h
 | some q=>simp [gE,mkGd]
def SemO (P:Program) (base:Nat) (so:SO) (σ:St) (e:Eff):Prop:=
 ∃ β,gdOf σ so.gd=some β ∧
  match so.op with
  | .call f xs=>∃ fn k1 k2 ins outs res pur ps,CallSem P σ β (σ.ev f) (xs.map σ.ev) fn k1 k2 ins outs res pur ∧ PutOf ins outs pur ps ∧ (so.gd ≠ none → ps=[] ∧ pur=[]) ∧ e=⟨mkGd so.gd β res,pur,ps,ins.map (·.1)⟩
  | .inv f bp ty s xs=>gok β (σ.sl s) ∧ ∃ fn k1 k2 ins outs res pur ps,CallSem P σ β (.c (.clo f [] [])) (rcvE σ bp ty (un (σ.sl s)) :: xs.map σ.ev) fn k1 k2 ins outs res pur ∧ PutOf ins outs pur ps ∧ (so.gd ≠ none → ps=[] ∧ pur=[]) ∧ e=⟨mkGd so.gd β res,pur,ps,(un (rcvE σ bp ty (un (σ.sl s)))).keys2 ++ ins.map (·.1)⟩
  | op=>∃ e0,evG so.gd β (ev1 (base + so.dst.getD 0) σ.ev σ op)=some e0 ∧ condG so.gd (cond β σ.ev σ op) (ev1 (base + so.dst.getD 0) σ.ev σ op) ∧ e=gEff so.gd β e0
def rcvOK (P:Program) (bp:Bool) (ty f:Nat) (name:String):Bool:=(match P.info? ty with
 | some i=>match i.methods.find? (·.name == name) with
  | some m=>m.path.isEmpty && decide (m.func=some (f,bp))
  | none=>false
 | none=>false) && (match P.underlying ty with
 | some (.pointer e)=>bp || decide (aggT P e=some false)
 | _=>false)
def okCall (P:Program):Op → SOp → Bool
 | .call ⟨.value f,xs,_⟩,.call g ys=>okA f g && okL xs.toList ys
 | .call ⟨.invoke x name,xs,_⟩,.inv f bp ty s ys=>okA x (.t s) && rcvOK P bp ty f name && okL xs.toList ys
 | _,_=>false
theorem run_ldr {t k:Nat} {ty:Nat} {c:Cell} (hR:Rel I n σ g a w) (ha:aggT P t=some false) (hk:σ.ob k=some (.box ty [c])):∃ v,(loadVar t ⟨g.blk k,0,none⟩).run P w=.ok v w ∧ RV2 g w (.c c) v:=by
 have hv:RV2 g w (.c (.ref k (σ.tg k) 0)) (ptr g k 0):=fun _=>⟨rfl,by rw [hR.tags];exact Nat.le_refl _,fun _=>rfl⟩
 have hl:loadAt σ true 0 (.c (.ref k (σ.tg k) 0))=some (.look (.c c) [k]):=by simp [loadAt,hk]
 obtain ⟨_,_,v,h3,h4⟩:=loadAt_spec hR hv hl ha (by simp)
 exact ⟨v,by simpa [Instr.loadAt,Instr.sureAddr,ptr] using h3,h4⟩
theorem run_rcv (hR:Rel I n σ g a w) {bp:Bool} {ty f s:Nat} {name:String} (h:rcvOK P bp ty f name=true) (hgs:gok true (σ.sl s)) (hg:gok true (rcvE σ bp ty (un (σ.sl s)))):∃ y r,a.tmps.getD s undef=.iface ty y ∧ RV2 g w (un (rcvE σ bp ty (un (σ.sl s)))) r ∧
  ∀ args:Array Value,(callMethod (.iface ty y) name args).run P w=(callFunc f (#[r] ++ args)).run P w:=by
 have hs:=RV_un (hR.slots s) hgs
 unfold rcvE at hg ⊢
 split at hg
 case h_2=>exact absurd (hg rfl) (by simp)
 rename_i ty' k t es
 simp only [rcvOK,Bool.and_eq_true] at h
 obtain ⟨hm,hu⟩:=h
 split at hm
 case h_2=>cases hm
 rename_i i hi
 split at hm
 case h_2=>cases hm
 rename_i m hf
 simp only [Bool.and_eq_true,decide_eq_true_eq] at hm
 obtain ⟨hp,hmf⟩:=hm
 have hp:m.path.toList=[]:=by simpa using hp
 split at hu
 case h_2=>cases hu
 rename_i el hel
 split at hg
 case isFalse=>exact absurd (hg rfl) (by simp)
 rename_i hc
 obtain ⟨rfl,htg⟩:=hc
 rw [es] at hs
 obtain ⟨r0,r1,r2⟩:=hs (by simp)
 have e1:=r2 (by rw [hR.tags];exact htg)
 have run : ∀ (r : Value), (receiverAt ty' (.val (ptr g k 0)) bp (if m.path.isEmpty then some ((name.splitOn ".").getLastD name) else none)).run P w = .ok r w →
   ∀ args:Array Value,(callMethod (.iface ty' (ptr g k 0)) name args).run P w=(callFunc f (#[r] ++ args)).run P w:=fun r hr args=>by
  have hti:(typeInfo ty').run P w=.ok i w:=by simp [typeInfo,hi]
  have hme:(method (P.types.size + Made.depth) ty' (ptr g k 0) name).run P w=.ok (f,r) w:=by
   rw [show P.types.size + Made.depth=(P.types.size + 99) + 1 from rfl,method]
   simp only [Sem.run_bind,hti,Result.andThen_ok,hf,hp,follow,Sem.run_pure,hmf,hr]
  simp [callMethod,hme]
 rw [if_pos (show ty'=ty' ∧ t=σ.tg k from ⟨rfl,htg⟩)]
 cases bp with
 | true=>
  refine ⟨ptr g k 0,ptr g k 0,e1,fun _=>⟨rfl,r1,fun _=>rfl⟩,run _ ?_⟩
  simp [receiverAt,run_underlying hel,Place.get]
 | false=>
  simp only [Bool.false_or,decide_eq_true_eq] at hu
  simp only [Bool.false_eq_true,if_false] at hg ⊢
  split at hg
  ·rename_i ty2 c ho
   obtain ⟨v,h1,h2⟩:=run_ldr hR hu ho
   refine ⟨ptr g k 0,v,e1,h2,run _ ?_⟩
   have:m.path.isEmpty=true:=by simpa using hp
   have hch : ∀ (ad : Addr) (nm : String), (Builtin.ssaWrapNilChk_ #[ty'] ty' #[.pointer (some ad), strVal "", strVal nm]).run P w = .ok (.pointer (some ad)) w := fun _ _ => rfl
   simp only [receiverAt,Sem.run_bind,run_underlying hel,Result.andThen_ok,this,if_true,Place.get,Sem.run_pure,ptr,hch,asAddr,h1]
  ·exact absurd (hg rfl) (by simp)
def okSO (P:Program) (n:Nat) (ops:Array Oper) (o:Oper) (so:SO):Bool:=
 decide (o.dst=so.dst) && (match so.dst with | some d=>decide (d < n) | none=>true) &&
 (match o.guard,so.gd with
 | none,none=>true
 | some (j,want),some (s,want')=>decide (want=want') && decide (s < n) && (match ops[j]? with | some o'=>decide (o'.dst=some s) | none=>false)
 | _,_=>false) &&
 (okOp P o.op so.op || okCall P o.op so.op)
theorem map_okL (hR:Rel I n σ g a w) {β:Bool} (hβ:β=true):∀ {xs:List Operand} {ys:List SArg},okL xs ys=true → (∀ x,x ∈ ys.map σ.ev → gok β x) → All2 (RV2 g w) ((ys.map σ.ev).map (fun x=>toD2 σ (un x))) (xs.map a.eval)
 | [],[],_,_=>trivial
 | x :: xs,y :: ys,h,hg=>by
  simp [okL] at h
  subst hβ
  exact ⟨toD2_spec hR (opd hR h.1 (hg _ (by simp))),map_okL hR rfl h.2 fun z hz=>hg z (by simp only [List.map_cons,List.mem_cons];exact .inr hz)⟩
 | [],_ :: _,h,_=>by simp [okL] at h
 | _ :: _,[],h,_=>by simp [okL] at h
theorem refs_spec {l:List (Nat × Nat)} {vs:List Value} (h:All2 (IsRef g) l vs):All2 (RV2 g w) (refs l) vs:=h.map_left _ fun k v hk=>fun _=>hk
theorem ap_same {l:Objs} {d:Option Nat} {v:AV} {rd:List Nat} (h:∀ k t q,l.lookup k=some (t,q) → σ.ob k=some q):σ.ap d ⟨v,[],objsOf l,rd⟩=σ.ap d ⟨v,[],[],rd⟩:=by
 have e:obAfter [] (objsOf l) σ.ob=obAfter [] [] σ.ob:=by
  funext k
  simp only [obAfter,lookup_objsOf]
  cases hk:l.lookup k with
  | none=>rfl
  | some x=>obtain ⟨t,q⟩:=x;simp [h k t q hk]
 simp only [St.ap,e]
theorem op_sound {base:Nat} {ops:Array Oper} {so:SO} {Q:Exit → Act → World → Prop} {K:Act → World → Prop} (hR:Rel I n σ g a w) (hok:okSO P n ops o so=true) (hs:SemO P base so σ e)
  (hK:∀ a' w' g',Rel I n (σ.ap so.dst e) g' a' w' → K a' w') :
  if Region.wanted o (yielded ops a.tmps)=true then o.wp P a w K Q else K (a.put o.dst undef) w:=by
 simp only [okSO,Bool.and_eq_true,decide_eq_true_eq] at hok
 obtain ⟨⟨⟨hd,hdn⟩,hg⟩,hop⟩:=hok
 have hdn':∀ d,so.dst=some d → d < n:=fun d h=>by rw [h] at hdn;simpa using hdn
 obtain ⟨β,hβ,hs⟩:=hs
 have hw:Region.wanted o (yielded ops a.tmps)=β:=by
  split at hg
  ·rename_i e1 e2
   rw [e2] at hβ
   simp [gdOf] at hβ
   subst hβ
   simp [Region.wanted,e1]
  ·rename_i j want s want' e1 e2
   rw [e2] at hβ
   simp only [Bool.and_eq_true,decide_eq_true_eq] at hg
   obtain ⟨⟨rfl,hsn⟩,hj⟩:=hg
   split at hj
   ·rename_i o' eo
    exact gb_spec hR e1 eo (by simpa using hj) hsn hβ
   ·cases hj
  ·cases hg
 rw [hw]
 have nogd:β=false → so.gd ≠ none:=fun hb h=>by rw [h] at hβ;simp [gdOf] at hβ;rw [hb] at hβ;cases hβ
 have mk0:∀ x,β=false → mkGd so.gd β x=.gd false x:=fun x hb=>by
  unfold mkGd
  split
  ·rename_i h;exact absurd h (nogd hb)
  ·rw [hb]
 have mk1:∀ {g':Gh} {w':World} {x v},β=true → RV2 g' w' x v → RV g' w' (mkGd so.gd β x) v:=fun hb hx=>by
  unfold mkGd
  split
  ·exact RV_of2 hx
  ·simp only [RV,hb,if_true];exact hx
 -- the operation is not carried out
 have skip:β=false → ∀ x,e.val=mkGd so.gd β x → e.pur=[] → e.put=[] → K (a.put o.dst undef) w:=fun hb x h0 h1 h2=>by
  refine hK _ _ g ?_
  rw [hd]
  exact hR.step hdn' (by rw [h1,h2];exact Step.quiet hR.wok) (by rw [h0,mk0 x hb];simp [RV])
 have prim:∀ {e0:Eff},Does P I σ g a w o e0 → e.val=mkGd so.gd β e0.val → e.pur=e0.pur → e.put=e0.put → β=true → o.wp P a w K Q:=fun {e0} hD h1 h2 h3 hb=>by
  obtain ⟨w',g',v,hr,hst,hv⟩:=hD
  have hR':Rel I n (σ.ap so.dst e) g' (a.put o.dst v) w':=by
   rw [hd]
   exact hR.step hdn' (by rw [h2,h3];exact hst) (by rw [h1];exact mk1 hb hv)
  unfold Oper.wp
  rcases hr with hr | ⟨hr,rfl⟩
  ·rw [hr];exact hK _ _ _ hR'
  ·rw [hr];exact hK _ _ _ hR'
 have nocall:(∀ f xs,so.op ≠ .call f xs) → (∀ f bp ty s xs,so.op ≠ .inv f bp ty s xs) → okOp P o.op so.op=true → (∃ e0,evG so.gd β (ev1 (base + so.dst.getD 0) σ.ev σ so.op)=some e0 ∧ condG so.gd (cond β σ.ev σ so.op) (ev1 (base + so.dst.getD 0) σ.ev σ so.op) ∧ e=gEff so.gd β e0) →
   if β=true then o.wp P a w K Q else K (a.put o.dst undef) w:=fun _ _ hop ⟨e0,h1,h2,h4⟩=>by
  split
  ·rename_i hb
   subst hb
   obtain ⟨h1,h2⟩:=evG_true h1 h2
   obtain ⟨q1,q2,q3⟩:=gEff_t so.gd e0
   exact prim (okOp_spec hR hop h1 h2) (by rw [h4,q1]) (by rw [h4,q2]) (by rw [h4,q3]) rfl
  ·rename_i hb
   have hb:β=false:=by simpa using hb
   subst hb
   obtain ⟨q1,q2,q3⟩:=gEff_f (nogd rfl) e0
   exact skip rfl e0.val (by rw [h4,q1]) (by rw [h4,q2]) (by rw [h4,q3])
 have okno:(∀ f xs,so.op ≠ .call f xs) → (∀ f bp ty s xs,so.op ≠ .inv f bp ty s xs) → okOp P o.op so.op=true:=fun h h'=>by
  rcases Bool.or_eq_true _ _ ▸ hop with h1 | h1
  ·exact h1
  ·unfold okCall at h1
   split at h1
   ·rename_i e2;exact absurd e2 (h _ _)
   ·rename_i e2;exact absurd e2 (h' _ _ _ _ _)
   ·cases h1
 cases hso:so.op
 case call f xs=>
  rw [hso] at hs hop
  obtain ⟨fn,k1,k2,ins,outs,res,pur,ps,hC,hps,hgd,rfl⟩:=hs
  split
  ·rename_i hb
   have hoc:okCall P o.op (.call f xs)=true:=by
    rcases Bool.or_eq_true _ _ ▸ hop with h1 | h1
    ·unfold okOp at h1
     cases eo:o.op <;> rw [eo] at h1 <;> simp only [reduceCtorEq,Bool.false_eq_true] at h1
    ·exact h1
   unfold okCall at hoc
   split at hoc
   ·rename_i x args ats f' xs' eop eso
    cases eso
    simp only [Bool.and_eq_true] at hoc
    have hfv:=opd hR hoc.1 (by have:=hC.gf;rw [hb] at this;exact this)
    rw [hC.c0] at hfv
    obtain ⟨v1,v2,hfe,r1,r2⟩:=hfv (by simp)
    have hargs:=map_okL hR hb hoc.2 hC.gx
    obtain ⟨hent,hsp⟩:=hC.cs hb
    have hall:All2 (RV2 g w) (refs k1 ++ (xs.map σ.ev).map (fun x=>toD2 σ (un x)) ++ refs k2) (v1 ++ args.map a.eval ++ v2).toList:=by
     simp only [Array.toList_append,Array.toList_map]
     exact ((refs_spec r1).append hargs).append (refs_spec r2)
    have hins:ObsOK g w ins:=⟨fun k t q hq=>by
      have:=hC.ci k t q hq
      exact ⟨(hR.tags k).trans this.2.1,hR.obs k q this.1⟩,
     fun k k' t t' q q' h1 h2 ha ha' hbb=>hR.sep k k' q q' (hC.ci k t q h1).1 (hC.ci k' t' q' h2).1 ha ha' hbb⟩
    have hcalls:=hsp g w _ hR.wok (hR.loOK fun k t q hq=>(hC.ci k t q hq).1) hall hins
    unfold Oper.wp
    have hrun:(execOp a.eval o).run P w=.ok (.enter fn (v1 ++ args.map a.eval ++ v2)) w:=by
     simp [execOp,eop,resolve,hfe,Deferred.ofValue,invoke]
     rw [← Array.append_assoc]
     exact hent _ _
    rw [hrun]
    refine Calls.mono hcalls ?_
    rintro e' w' ⟨v,g',rfl,hp⟩
    obtain ⟨g2,hst,hv⟩:=call_step hR hC hp
    refine hK _ _ g2 ?_
    rw [hd]
    rcases hps with rfl | ⟨rfl,rfl,rfl⟩
    ·exact hR.step hdn' hst (mk1 hb hv)
    ·have:=hR.step (e:=⟨mkGd so.gd β res,[],objsOf outs,outs.map (·.1)⟩) hdn' hst (mk1 hb hv)
     rwa [ap_same fun k t q h=>(hC.ci k t q h).1] at this
   ·rename_i eso;cases eso
   ·cases hoc
  ·rename_i hb
   have hb:β=false:=by simpa using hb
   obtain ⟨q1,q2⟩:=hgd (nogd hb)
   exact skip hb res rfl q2 q1
 case inv f bp ty s xs=>
  rw [hso] at hs hop
  obtain ⟨hgs,fn,k1,k2,ins,outs,res,pur,ps,hC,hps,hgd,rfl⟩:=hs
  split
  ·rename_i hb
   have hoc:okCall P o.op (.inv f bp ty s xs)=true:=by
    rcases Bool.or_eq_true _ _ ▸ hop with h1 | h1
    ·unfold okOp at h1
     cases eo:o.op <;> rw [eo] at h1 <;> simp only [reduceCtorEq,Bool.false_eq_true] at h1
    ·exact h1
   unfold okCall at hoc
   split at hoc
   ·rename_i eso;cases eso
   ·rename_i x name args ats f' bp' ty' s' xs' eop eso
    cases eso
    simp only [Bool.and_eq_true] at hoc
    obtain ⟨⟨hx,hr⟩,hl⟩:=hoc
    have hgr:=hC.gx (rcvE σ bp ty (un (σ.sl s))) (by simp)
    rw [hb] at hgr
    obtain ⟨y,r,hy,hr2,hrun0⟩:=run_rcv hR hr (by have:=hgs;rwa [hb] at this) hgr
    have hxv:a.eval x=.iface ty y:=by
     cases x <;> simp [okA] at hx
     subst hx
     exact hy
    have hargs:=map_okL hR hb hl fun z hz=>hC.gx z (by simp [hz])
    have hc0:=hC.c0
    have hfn:fn=f ∧ k1=[] ∧ k2=[]:=by cases hc0;exact ⟨rfl,rfl,rfl⟩
    obtain ⟨rfl,rfl,rfl⟩:=hfn
    obtain ⟨hent,hsp⟩:=hC.cs hb
    have hall:All2 (RV2 g w) (refs [] ++ (rcvE σ bp ty (un (σ.sl s)) :: xs.map σ.ev).map (fun x=>toD2 σ (un x)) ++ refs []) (#[r] ++ args.map a.eval).toList:=by
     simp only [refs,List.map_nil,List.nil_append,List.append_nil,List.map_cons,Array.toList_append,Array.toList_map]
     exact ⟨toD2_spec hR hr2,hargs⟩
    have hins:ObsOK g w ins:=⟨fun k t q hq=>by
      have:=hC.ci k t q hq
      exact ⟨(hR.tags k).trans this.2.1,hR.obs k q this.1⟩,
     fun k k' t t' q q' h1 h2 ha ha' hbb=>hR.sep k k' q q' (hC.ci k t q h1).1 (hC.ci k' t' q' h2).1 ha ha' hbb⟩
    have hcalls:=hsp g w _ hR.wok (hR.loOK fun k t q hq=>(hC.ci k t q hq).1) hall hins
    unfold Oper.wp
    have hrun:(execOp a.eval o).run P w=.ok (.enter fn (#[r] ++ args.map a.eval)) w:=by
     have hz:((#[Value.iface ty y] ++ args.map a.eval).extract 1 (#[Value.iface ty y] ++ args.map a.eval).size)=args.map a.eval:=by
      apply Array.ext'
      simp
      rw [List.take_of_length_le (by simp)]
     have h0:(#[Value.iface ty y] ++ args.map a.eval)[0]? = some (Value.iface ty y):=by
      rw [Array.getElem?_append_left (Nat.one_pos)];rfl
     have:(execOp a.eval o).run P w=(callMethod (.iface ty y) name (args.map a.eval)).run P w:=by
      have hz2:(args.map a.eval).extract 0 args.size=args.map a.eval:=by
       apply Array.ext'
       simp
       rw [List.take_of_length_le (by simp)]
      simp [execOp,eop,resolve,hxv,invoke]
      rw [h0]
      simp only [hz2]
     rw [this,hrun0]
     exact hent _ _
    rw [hrun]
    refine Calls.mono hcalls ?_
    rintro e' w' ⟨v,g',rfl,hp⟩
    obtain ⟨g2,hst,hv⟩:=call_step hR hC hp
    refine hK _ _ g2 ?_
    rw [hd]
    rcases hps with rfl | ⟨rfl,rfl,rfl⟩
    ·exact hR.step hdn' hst (mk1 hb hv)
    ·have:=hR.step (e:=⟨mkGd so.gd β res,[],objsOf outs,outs.map (·.1)⟩) hdn' hst (mk1 hb hv)
     rwa [ap_same fun k t q h=>(hC.ci k t q h).1] at this
   ·cases hoc
  ·rename_i hb
   have hb:β=false:=by simpa using hb
   obtain ⟨q1,q2⟩:=hgd (nogd hb)
   exact skip hb res rfl q2 q1
 all_goals
  have hnc:∀ f xs,so.op ≠ .call f xs:=by rw [hso];intro f xs h;cases h
  have hnv:∀ f bp ty s xs,so.op ≠ .inv f bp ty s xs:=by rw [hso];intro f bp ty s xs h;cases h
  have hs':∃ e0,evG so.gd β (ev1 (base + so.dst.getD 0) σ.ev σ so.op)=some e0 ∧ condG so.gd (cond β σ.ev σ so.op) (ev1 (base + so.dst.getD 0) σ.ev σ so.op) ∧ e=gEff so.gd β e0:=by
   simp only [hso] at hs ⊢
   exact hs
  exact nocall hnc hnv (okno hnc hnv) hs'
end Go.Abs

namespace Go.Abs
variable {P:Program} {I:Init} {n:Nat} {σ σ':St} {g g':Gh} {a:Act} {w w':World} {o:Oper} {e:Eff} {key:Nat}
def optL {α:Type}:Option α → List α
 | some x=>[x]
 | none=>[]
def SOp.args:SOp → List SArg
 | .mv x=>[x]
 | .pick c a b=>[c,a,b]
 | .box _ x=>[x]
 | .alloc _ _=>[]
 | .build _ _ ps=>ps.map (·.2.2.2)
 | .lit _ _ _ xs=>xs
 | .ld1 _ x=>[x]
 | .ldf _ x=>[x]
 | .ldn _ _ x=>[x]
 | .st1 _ x v=>[x,v]
 | .stn _ _ x v=>[x,v]
 | .nilc x=>[x]
 | .beq _ _ x y=>[x,y]
 | .aeq _ _ x y=>[x,y]
 | .bin _ x y=>[x,y]
 | .not x=>[x]
 | .neg x=>[x]
 | .conv _ _ _ x=>[x]
 | .mkfn _ xs ys=>xs ++ ys
 | .mk _ _ _ _ x=>[x]
 | .slc _ _ _ x lo hi mx=>x :: (optL lo ++ (optL hi ++ optL mx))
 | .fad _ _ _ x=>[x]
 | .fld1 _ _ _ x=>[x]
 | .fldn _ _ _ _ x=>[x]
 | .iad _ _ x i=>[x,i]
 | .iaa _ _ _ x i=>[x,i]
 | .mkb _ _ _ x=>[x]
 | .ext x _=>[x]
 | .len _ x=>[x]
 | .app _ _ _ x y=>[x,y]
 | .appm _ _ _ x y=>[x,y]
 | .shr _ _ _ x y=>[x,y]
 | .cut _ _ x y=>[x,y]
 | .mki _ x=>[x]
 | .tas _ x=>[x]
 | .pan x=>[x]
 | .appn _ _ _ x y=>[x,y]
 | .nileq _ x=>[x]
 | .best _ xs=>xs
 | .mkmap _=>[]
 | .mset _ m k v=>[m,k,v]
 | .mget _ _ _ m k=>[m,k]
 | .call f xs=>f :: xs
 | .inv _ _ _ s xs=>.t s :: xs
def SOp.kargs:SOp → List SArg
 | .mv _=>[]
 | op=>op.args
theorem kargs_args {op:SOp} {x:SArg} (h:x ∈ op.kargs):x ∈ op.args:=by cases op <;> first | exact h | cases h
def opKeys (σ:St) (op:SOp):List Nat:=op.kargs.flatMap fun x=>(un (σ.ev x)).keys2
def wrote (e:Eff):List Nat:=e.pur ++ e.put.map (·.1)
structure Same (σ σ':St) (op:SOp):Prop where
 ev:∀ x,x ∈ op.args → σ'.ev x=σ.ev x
 ob:∀ k,k ∈ opKeys σ op → σ'.ob k=σ.ob k ∧ σ'.tg k=σ.tg k
theorem toD_same {c:Cell} (h:∀ k,k ∈ c.keys → σ'.ob k=σ.ob k ∧ σ'.tg k=σ.tg k):toD σ' c=toD σ c:=by
 cases c with
 | own k t=>simp only [toD];obtain ⟨h1,h2⟩:=h k (by simp [Cell.keys]);rw [h1,h2]
 | _=>rfl
theorem toD_sames {cs:List Cell} (h:∀ k,k ∈ keysCs cs → σ'.ob k=σ.ob k ∧ σ'.tg k=σ.tg k):cs.map (toD σ')=cs.map (toD σ):=
 List.map_congr_left fun c hc=>toD_same fun k hk=>h k (List.mem_flatMap.2 ⟨c,hc,hk⟩)
theorem cellsOf_keys {x:AV} {cs:List Cell} (h:cellsOf x=some cs) {k:Nat} (hk:k ∈ keysCs cs):k ∈ x.keys2:=by
 cases x with
 | c x=>
  have hcs:cs=[x]:=by cases x <;> simp_all [cellsOf]
  subst hcs
  simpa [keysCs,AV.keys2,AV.keys1] using hk
 | agg l=>simp [cellsOf] at h;subst h;exact hk
 | tup l=>simp [cellsOf] at h
 | gd b x=>simp [cellsOf] at h
theorem elems_same {x:AV} (h:∀ k,k ∈ x.keys2 → σ'.ob k=σ.ob k ∧ σ'.tg k=σ.tg k):elems σ' x=elems σ x:=by
 cases x with
 | c x=>
  cases x with
  | own k t=>simp only [elems];obtain ⟨h1,h2⟩:=h k (by simp [AV.keys2,AV.keys1,Cell.keys]);rw [h1,h2]
  | _=>rfl
 | _=>rfl
theorem loadAt_same {one:Bool} {m:Nat} {x:AV} (h:∀ k,k ∈ x.keys2 → σ'.ob k=σ.ob k ∧ σ'.tg k=σ.tg k):loadAt σ' one m x=loadAt σ one m x:=by
 cases x with
 | c x=>
  cases x with
  | ref k t off=>simp only [loadAt];obtain ⟨h1,h2⟩:=h k (by simp [AV.keys2,AV.keys1,Cell.keys]);rw [h1,h2]
  | elw k t sz i j=>simp only [loadAt];obtain ⟨h1,h2⟩:=h k (by simp [AV.keys2,AV.keys1,Cell.keys]);rw [h1,h2]
  | _=>rfl
 | _=>rfl
theorem storeAt_same {m:Nat} {xs:List Cell} {x:AV} (h:∀ k,k ∈ x.keys2 → σ'.ob k=σ.ob k ∧ σ'.tg k=σ.tg k) (hx:∀ k,k ∈ keysCs xs → σ'.ob k=σ.ob k ∧ σ'.tg k=σ.tg k) :
  storeAt σ' m xs x=storeAt σ m xs x:=by
 cases x with
 | c x=>
  cases x with
  | ref k t off=>simp only [storeAt];obtain ⟨h1,h2⟩:=h k (by simp [AV.keys2,AV.keys1,Cell.keys]);rw [h1,h2]
  | elw k t sz i j=>simp only [storeAt];obtain ⟨h1,h2⟩:=h k (by simp [AV.keys2,AV.keys1,Cell.keys]);rw [h1,h2,toD_sames hx]
  | _=>rfl
 | _=>rfl
theorem msetAt_same {one:Bool} {n:Int} {xs:List Cell} {x:AV} (h:∀ k,k ∈ x.keys2 → σ'.ob k=σ.ob k ∧ σ'.tg k=σ.tg k) (hx:∀ k,k ∈ keysCs xs → σ'.ob k=σ.ob k ∧ σ'.tg k=σ.tg k) :
  msetAt σ' one n xs x=msetAt σ one n xs x:=by
 cases x with
 | c x=>
  cases x with
  | mp k t=>simp only [msetAt];obtain ⟨h1,h2⟩:=h k (by simp [AV.keys2,AV.keys1,Cell.keys]);rw [h1,h2,toD_sames hx]
  | _=>rfl
 | _=>rfl
theorem mrowAt_same {ty:Nat} {x:AV} (h:∀ k,k ∈ x.keys2 → σ'.ob k=σ.ob k ∧ σ'.tg k=σ.tg k):mrowAt σ' ty x=mrowAt σ ty x:=by
 cases x with
 | c x=>
  cases x with
  | own k t=>simp only [mrowAt];obtain ⟨h1,h2⟩:=h k (by simp [AV.keys2,AV.keys1,Cell.keys]);rw [h1,h2]
  | _=>rfl
 | _=>rfl
theorem rowAt_same {ty:Nat} {x:AV} (h:∀ k,k ∈ x.keys2 → σ'.ob k=σ.ob k ∧ σ'.tg k=σ.tg k):rowAt σ' ty x=rowAt σ ty x:=by
 cases x with
 | c x=>
  cases x with
  | own k t=>simp only [rowAt];obtain ⟨h1,h2⟩:=h k (by simp [AV.keys2,AV.keys1,Cell.keys]);rw [h1,h2]
  | _=>rfl
 | _=>rfl
theorem mkiE_same {ty:Nat} {x:AV} (h:∀ k,k ∈ x.keys2 → σ'.ob k=σ.ob k ∧ σ'.tg k=σ.tg k):mkiE σ' ty x=mkiE σ ty x:=by
 unfold mkiE
 split
 ·rfl
 ·rename_i k t;rw [(h k (by simp [AV.keys2,AV.keys1,Cell.keys])).2]
 ·rfl
theorem iaaE_same {sz:Nat} {i:Option Int} {x:AV} (h:∀ k,k ∈ x.keys2 → σ'.ob k=σ.ob k ∧ σ'.tg k=σ.tg k):iaaE σ' sz i x=iaaE σ sz i x:=by
 cases i with
 | none=>cases x with
  | c x=>cases x <;> rfl
  | _=>rfl
 | some i=>cases x with
  | c x=>
   cases x with
   | ref k t o=>simp only [iaaE];rw [(h k (by simp [AV.keys2,AV.keys1,Cell.keys])).2]
   | elw k t s p j=>simp only [iaaE];rw [(h k (by simp [AV.keys2,AV.keys1,Cell.keys])).2]
   | _=>rfl
  | _=>rfl
theorem mgetAt_same {one ok:Bool} {zs:List Cell} {n:Int} {x:AV} (h:∀ k,k ∈ x.keys2 → σ'.ob k=σ.ob k ∧ σ'.tg k=σ.tg k):mgetAt σ' one ok zs n x=mgetAt σ one ok zs n x:=by
 cases x with
 | c x=>
  cases x with
  | mp k t=>simp only [mgetAt];obtain ⟨h1,h2⟩:=h k (by simp [AV.keys2,AV.keys1,Cell.keys]);rw [h1,h2]
  | _=>rfl
 | _=>rfl
theorem mcells_keys {one:Bool} {x:AV} {cs:List Cell} (h:mcells one x=some cs) {k:Nat} (hk:k ∈ keysCs cs):k ∈ x.keys2:=by
 cases x with
 | c x=>
  have:cs=[x]:=by
   cases x <;> simp [mcells] at h <;> exact h.2.symm
  subst this
  simpa [keysCs,AV.keys2,AV.keys1] using hk
 | agg l=>simp [mcells] at h;obtain ⟨_,rfl⟩:=h;exact hk
 | tup l=>simp [mcells] at h
 | gd b x=>simp [mcells] at h
theorem litEs_same:∀ {l:List AV},(∀ x,x ∈ l → ∀ k,k ∈ (un x).keys2 → σ'.ob k=σ.ob k ∧ σ'.tg k=σ.tg k) → litEs σ' l=litEs σ l
 | [],_=>rfl
 | x :: r,h=>by
  simp only [litEs]
  rw [litEs_same fun y hy=>h y (by simp [hy])]
  cases hc:cellsOf (un x) with
  | none=>rfl
  | some cs=>
   have e:=toD_sames fun k hk=>h x (by simp) k (cellsOf_keys hc hk)
   cases litEs σ r <;> simp [e]
theorem partCs_same {ρ ρ':SArg → AV}:∀ {ps:List (Nat × Nat × Nat × SArg)},(∀ p,p ∈ ps → ρ' p.2.2.2=ρ p.2.2.2) → partCs ρ' ps=partCs ρ ps
 | [],_=>rfl
 | (i,off,m,x) :: r,h=>by
  simp only [partCs]
  rw [partCs_same fun p hp=>h p (by simp [hp]),h (i,off,m,x) (by simp)]
theorem Same.map {op:SOp} (h:Same σ σ' op) {xs:List SArg} (hx:∀ x,x ∈ xs → x ∈ op.args):xs.map σ'.ev=xs.map σ.ev:=List.map_congr_left fun x hm=>h.ev x (hx x hm)
theorem Same.keys {op:SOp} (h:Same σ σ' op) {x:SArg} (hx:x ∈ op.kargs):∀ k,k ∈ (un (σ.ev x)).keys2 → σ'.ob k=σ.ob k ∧ σ'.tg k=σ.tg k:=fun k hk=>h.ob k (List.mem_flatMap.2 ⟨x,hx,hk⟩)
theorem keys_own {k t:Nat} {x:AV} (h:x=.c (.own k t)):k ∈ x.keys2:=by subst h;simp [AV.keys2,AV.keys1,Cell.keys]
theorem keys_sob {k t m:Nat} {x:AV} (h:x=.c (.sob k t m)):k ∈ x.keys2:=by subst h;simp [AV.keys2,AV.keys1,Cell.keys]
theorem keys_ref {k t off:Nat} {x:AV} (h:x=.c (.ref k t off)):k ∈ x.keys2:=by subst h;simp [AV.keys2,AV.keys1,Cell.keys]
theorem keys_elw {k t sz i j:Nat} {x:AV} (h:x=.c (.elw k t sz i j)):k ∈ x.keys2:=by subst h;simp [AV.keys2,AV.keys1,Cell.keys]
theorem ev1_same {op:SOp} (h:Same σ σ' op) (hk:σ'.tg key=σ.tg key):ev1 key σ'.ev σ' op=ev1 key σ.ev σ op:=by
 cases op with
 | mv x=>simp only [ev1];rw [h.ev x (by simp [SOp.args])]
 | pick c a b=>simp only [ev1];rw [h.ev c (by simp [SOp.args]),h.ev a (by simp [SOp.args]),h.ev b (by simp [SOp.args])]
 | box ty x=>simp only [ev1];rw [h.ev x (by simp [SOp.args]),hk]
 | alloc ty zs=>simp only [ev1];rw [hk]
 | build ty zs ps=>simp only [ev1];rw [partCs_same fun p hp=>h.ev _ (by simp only [SOp.args,List.mem_map];exact ⟨p,hp,rfl⟩)]
 | lit ty sz bs xs=>
  simp only [ev1]
  rw [h.map (xs:=xs) (fun x hx=>hx),litEs_same (l:=xs.map σ.ev) fun y hy=>by
   obtain ⟨x,hx,rfl⟩:=List.mem_map.1 hy
   exact h.keys hx]
  have:(xs.flatMap fun x=>(un (σ'.ev x)).keys1)=xs.flatMap fun x=>(un (σ.ev x)).keys1:=by
   simp only [List.flatMap]
   rw [List.map_congr_left fun x hx=>by rw [h.ev x hx]]
  rw [this]
 | ld1 ty x=>simp only [ev1];rw [h.ev x (by simp [SOp.args]),loadAt_same (h.keys (by simp [SOp.args,SOp.kargs]))]
 | ldf ty x=>simp only [ev1];rw [h.ev x (by simp [SOp.args]),loadAt_same (h.keys (by simp [SOp.args,SOp.kargs]))]
 | ldn ty m x=>simp only [ev1];rw [h.ev x (by simp [SOp.args]),loadAt_same (h.keys (by simp [SOp.args,SOp.kargs]))]
 | st1 ty x v=>
  simp only [ev1];rw [h.ev x (by simp [SOp.args]),h.ev v (by simp [SOp.args])]
  cases hc:cellsOf (un (σ.ev v)) with
  | none=>rfl
  | some cs=>exact storeAt_same (h.keys (by simp [SOp.args,SOp.kargs])) fun k hk=>h.keys (x:=v) (by simp [SOp.args,SOp.kargs]) k (cellsOf_keys hc hk)
 | stn ty m x v=>
  simp only [ev1];rw [h.ev x (by simp [SOp.args]),h.ev v (by simp [SOp.args])]
  cases hc:cellsOf (un (σ.ev v)) with
  | none=>rfl
  | some cs=>exact storeAt_same (h.keys (by simp [SOp.args,SOp.kargs])) fun k hk=>h.keys (x:=v) (by simp [SOp.args,SOp.kargs]) k (cellsOf_keys hc hk)
 | nilc x=>
  simp only [ev1];rw [h.ev x (by simp [SOp.args])]
  split
  ·rename_i k t off e;rw [(h.keys (x:=x) (by simp [SOp.args,SOp.kargs]) k (keys_ref e)).2]
  ·rfl
  ·rfl
 | beq neg ty x y=>simp only [ev1];rw [h.ev x (by simp [SOp.args]),h.ev y (by simp [SOp.args])]
 | aeq neg ty x y=>simp only [ev1];rw [h.ev x (by simp [SOp.args]),h.ev y (by simp [SOp.args])]
 | bin op x y=>simp only [ev1];rw [h.ev x (by simp [SOp.args]),h.ev y (by simp [SOp.args])]
 | not x=>simp only [ev1];rw [h.ev x (by simp [SOp.args])]
 | neg x=>simp only [ev1];rw [h.ev x (by simp [SOp.args])]
 | conv t u k x=>simp only [ev1];rw [h.ev x (by simp [SOp.args])]
 | mkfn f xs ys=>simp only [ev1];rw [h.map (xs:=xs) (fun x hx=>by simp [SOp.args,hx]),h.map (xs:=ys) (fun x hx=>by simp [SOp.args,hx])]
 | mk ty sz bs zs x=>
  simp only [ev1];rw [h.ev x (by simp [SOp.args]),hk]
 | slc ty sz bs x lo hi mx=>
  simp only [ev1];rw [h.ev x (by simp [SOp.args]),elems_same (h.keys (by simp [SOp.args,SOp.kargs]))]
  have hlo:∀ y,lo=some y → σ'.ev y=σ.ev y:=fun y hy=>h.ev y (by simp [SOp.args,hy,optL])
  have hhi:∀ y,hi=some y → σ'.ev y=σ.ev y:=fun y hy=>h.ev y (by simp [SOp.args,hy,optL])
  have hmx:∀ y,mx=some y → σ'.ev y=σ.ev y:=fun y hy=>h.ev y (by simp [SOp.args,hy,optL])
  cases lo <;> cases hi <;> cases mx <;> simp [hlo,hhi,hmx]
 | fad ty i off x=>
  simp only [ev1];rw [h.ev x (by simp [SOp.args])]
  split
  ·rename_i k t o e;rw [(h.keys (x:=x) (by simp [SOp.args,SOp.kargs]) k (keys_ref e)).2]
  ·rfl
  ·rename_i k t sz i j e;rw [(h.keys (x:=x) (by simp [SOp.args,SOp.kargs]) k (keys_elw e)).2]
  ·rfl
 | fld1 ty i off x=>simp only [ev1];rw [h.ev x (by simp [SOp.args])]
 | fldn ty i off m x=>simp only [ev1];rw [h.ev x (by simp [SOp.args])]
 | iad ty sz x i=>
  simp only [ev1];rw [h.ev x (by simp [SOp.args]),h.ev i (by simp [SOp.args])]
  split
  ·split
   ·rename_i k t e;rw [(h.keys (x:=x) (by simp [SOp.args,SOp.kargs]) k (keys_own e)).2,(h.keys (x:=x) (by simp [SOp.args,SOp.kargs]) k (keys_own e)).1]
   ·rfl
   ·rfl
   ·rename_i k t m e;rw [(h.keys (x:=x) (by simp [SOp.args,SOp.kargs]) k (keys_sob e)).2]
   ·rfl
  ·rfl
 | iaa ty sz m x i=>
  simp only [ev1];rw [h.ev x (by simp [SOp.args]),h.ev i (by simp [SOp.args]),iaaE_same (h.keys (by simp [SOp.args,SOp.kargs]))]
 | mkb ty bs z x=>simp only [ev1];rw [h.ev x (by simp [SOp.args]),hk]
 | ext x i=>simp only [ev1];rw [h.ev x (by simp [SOp.args])]
 | len ty x=>
  simp only [ev1];rw [h.ev x (by simp [SOp.args])]
  split
  ·rename_i k t e;rw [(h.keys (x:=x) (by simp [SOp.args,SOp.kargs]) k (keys_own e)).2,(h.keys (x:=x) (by simp [SOp.args,SOp.kargs]) k (keys_own e)).1]
  all_goals rfl
 | app ty sz bs x y=>
  simp only [ev1];rw [h.ev x (by simp [SOp.args]),h.ev y (by simp [SOp.args]),elems_same (h.keys (by simp [SOp.args,SOp.kargs])),hk]
  split
  ·split
   ·rfl
   ·rename_i k t e;rw [(h.keys (x:=x) (by simp [SOp.args,SOp.kargs]) k (keys_own e)).2,(h.keys (x:=x) (by simp [SOp.args,SOp.kargs]) k (keys_own e)).1]
   ·rfl
  ·rfl
 | appm ty sz bs x y=>
  simp only [ev1];rw [h.ev x (by simp [SOp.args]),h.ev y (by simp [SOp.args]),elems_same (h.keys (by simp [SOp.args,SOp.kargs])),mrowAt_same (h.keys (by simp [SOp.args,SOp.kargs])),hk]
 | cut ty sz x y=>
  simp only [ev1];rw [h.ev x (by simp [SOp.args]),h.ev y (by simp [SOp.args]),rowAt_same (h.keys (by simp [SOp.args,SOp.kargs])),hk]
 | shr ty sz bs x y=>
  simp only [ev1];rw [h.ev x (by simp [SOp.args]),h.ev y (by simp [SOp.args]),mrowAt_same (h.keys (by simp [SOp.args,SOp.kargs])),hk]
 | mki ty x=>simp only [ev1];rw [h.ev x (by simp [SOp.args]),mkiE_same (h.keys (by simp [SOp.args,SOp.kargs]))]
 | nileq neg x=>simp only [ev1];rw [h.ev x (by simp [SOp.args]),elems_same (h.keys (by simp [SOp.args,SOp.kargs]))]
 | appn ty sz bs x y=>simp only [ev1];rw [h.ev x (by simp [SOp.args]),h.ev y (by simp [SOp.args]),elems_same (h.keys (by simp [SOp.args,SOp.kargs])),hk]
 | tas ty x=>simp only [ev1];rw [h.ev x (by simp [SOp.args])]
 | pan x=>rfl
 | best mx xs=>simp only [ev1];rw [h.map (xs:=xs) (fun x hx=>hx)]
 | mkmap one=>simp only [ev1];rw [hk]
 | mset one m k v=>
  simp only [ev1];rw [h.ev m (by simp [SOp.args]),h.ev k (by simp [SOp.args]),h.ev v (by simp [SOp.args])]
  split
  ·split
   ·rename_i e
    exact msetAt_same (h.keys (by simp [SOp.args,SOp.kargs])) fun k hk=>h.keys (x:=v) (by simp [SOp.args,SOp.kargs]) k (mcells_keys e hk)
   ·rfl
  ·rfl
 | mget one ok zs m k=>
  simp only [ev1];rw [h.ev m (by simp [SOp.args]),h.ev k (by simp [SOp.args])]
  split
  ·exact mgetAt_same (h.keys (by simp [SOp.args,SOp.kargs]))
  ·rfl
 | call f xs=>rfl
 | inv f bp ty s xs=>rfl
end Go.Abs

namespace Go.Abs
variable {P:Program} {I:Init} {n:Nat} {σ σ':St} {g g':Gh} {a:Act} {w w':World} {o:Oper} {e:Eff}
theorem cond_same {op:SOp} {β:Bool} (h:Same σ σ' op) (hc:cond β σ.ev σ op):cond β σ'.ev σ' op:=by
 cases op with
 | mv x=>simp only [cond] at hc ⊢;rw [h.ev x (by simp [SOp.args])];exact hc
 | pick c a b=>simp only [cond] at hc ⊢;rw [h.ev c (by simp [SOp.args]),h.ev a (by simp [SOp.args]),h.ev b (by simp [SOp.args])];exact hc
 | box ty x=>simp only [cond] at hc ⊢;rw [h.ev x (by simp [SOp.args])];exact hc
 | alloc ty zs=>exact hc
 | build ty zs ps=>
  simp only [cond] at hc ⊢
  have hp:∀ p,p ∈ ps → σ'.ev p.2.2.2=σ.ev p.2.2.2:=fun p hp=>h.ev _ (by simp only [SOp.args,List.mem_map];exact ⟨p,hp,rfl⟩)
  exact ⟨fun p hm=>by rw [hp p hm];exact hc.1 p hm,fun p hm cs hcs=>hc.2 p hm cs (by rw [← hp p hm];exact hcs)⟩
 | lit ty sz bs xs=>
  simp only [cond] at hc ⊢
  rw [h.map (xs:=xs) (fun x hx=>hx),litEs_same (l:=xs.map σ.ev) fun y hy=>by
   obtain ⟨x,hx,rfl⟩:=List.mem_map.1 hy
   exact h.keys hx]
  exact ⟨fun x hx=>by rw [h.ev x hx];exact hc.1 x hx,hc.2⟩
 | ld1 ty x=>simp only [cond] at hc ⊢;rw [h.ev x (by simp [SOp.args])];exact hc
 | ldf ty x=>simp only [cond] at hc ⊢;rw [h.ev x (by simp [SOp.args])];exact hc
 | ldn ty m x=>simp only [cond] at hc ⊢;rw [h.ev x (by simp [SOp.args])];exact hc
 | st1 ty x v=>simp only [cond] at hc ⊢;rw [h.ev x (by simp [SOp.args]),h.ev v (by simp [SOp.args])];exact hc
 | stn ty m x v=>simp only [cond] at hc ⊢;rw [h.ev x (by simp [SOp.args]),h.ev v (by simp [SOp.args])];exact hc
 | nilc x=>simp only [cond] at hc ⊢;rw [h.ev x (by simp [SOp.args])];exact hc
 | beq neg ty x y=>simp only [cond] at hc ⊢;rw [h.ev x (by simp [SOp.args]),h.ev y (by simp [SOp.args])];exact hc
 | aeq neg ty x y=>simp only [cond] at hc ⊢;rw [h.ev x (by simp [SOp.args]),h.ev y (by simp [SOp.args])];exact hc
 | bin op x y=>simp only [cond] at hc ⊢;rw [h.ev x (by simp [SOp.args]),h.ev y (by simp [SOp.args])];exact hc
 | not x=>simp only [cond] at hc ⊢;rw [h.ev x (by simp [SOp.args])];exact hc
 | neg x=>simp only [cond] at hc ⊢;rw [h.ev x (by simp [SOp.args])];exact hc
 | conv t u k x=>simp only [cond] at hc ⊢;rw [h.ev x (by simp [SOp.args])];exact hc
 | mkfn f xs ys=>
  simp only [cond] at hc ⊢
  exact ⟨fun x hx=>by rw [h.ev x (by simp [SOp.args,hx])];exact hc.1 x hx,fun x hx=>by rw [h.ev x (by simp [SOp.args,hx])];exact hc.2 x hx⟩
 | mk ty sz bs zs x=>simp only [cond] at hc ⊢;rw [h.ev x (by simp [SOp.args])];exact hc
 | slc ty sz bs x lo hi mx=>
  simp only [cond] at hc ⊢;rw [h.ev x (by simp [SOp.args]),elems_same (h.keys (by simp [SOp.args,SOp.kargs]))]
  have hlo:∀ y,lo=some y → σ'.ev y=σ.ev y:=fun y hy=>h.ev y (by simp [SOp.args,hy,optL])
  have hhi:∀ y,hi=some y → σ'.ev y=σ.ev y:=fun y hy=>h.ev y (by simp [SOp.args,hy,optL])
  have hmx:∀ y,mx=some y → σ'.ev y=σ.ev y:=fun y hy=>h.ev y (by simp [SOp.args,hy,optL])
  obtain ⟨c1,c2,c3,c4,c5⟩:=hc
  refine ⟨c1,fun y hy=>by rw [hlo y hy];exact c2 y hy,fun y hy=>by rw [hhi y hy];exact c3 y hy,fun y hy=>by rw [hmx y hy];exact c4 y hy,fun hb q hq=>?_⟩
  obtain ⟨d1,d2,d3⟩:=c5 hb q hq
  refine ⟨d1,d2,fun l h' hl hh=>?_⟩
  obtain ⟨f1,f2,f3,f4⟩:=d3 l h' (by rw [← hl];cases lo <;> simp [hlo]) (by rw [← hh];cases hi <;> simp [hhi])
  exact ⟨f1,f2,f3,fun y hy=>by rw [hmx y hy];exact f4 y hy⟩
 | fad ty i off x=>simp only [cond] at hc ⊢;rw [h.ev x (by simp [SOp.args])];exact hc
 | fld1 ty i off x=>simp only [cond] at hc ⊢;rw [h.ev x (by simp [SOp.args])];exact hc
 | fldn ty i off m x=>simp only [cond] at hc ⊢;rw [h.ev x (by simp [SOp.args])];exact hc
 | iad ty sz x i=>
  simp only [cond] at hc ⊢;rw [h.ev x (by simp [SOp.args]),h.ev i (by simp [SOp.args])]
  refine ⟨hc.1,hc.2.1,fun hb m hm=>⟨(hc.2.2 hb m hm).1,?_⟩⟩
  have h3:=(hc.2.2 hb m hm).2
  split
  ·rename_i k t e
   rw [e] at h3
   rw [(h.keys (x:=x) (by simp [SOp.args,SOp.kargs]) k (keys_own e)).1]
   exact h3
  ·rename_i e;rw [e] at h3;exact h3
  ·rename_i e;rw [e] at h3;exact h3
  ·rename_i e;rw [e] at h3;exact h3
  ·trivial
 | mkmap one=>exact hc
 | mset one m k v=>simp only [cond] at hc ⊢;rw [h.ev m (by simp [SOp.args]),h.ev k (by simp [SOp.args]),h.ev v (by simp [SOp.args])];exact hc
 | mget one ok zs m k=>simp only [cond] at hc ⊢;rw [h.ev m (by simp [SOp.args]),h.ev k (by simp [SOp.args])];exact hc
 | iaa ty sz m x i=>simp only [cond] at hc ⊢;rw [h.ev x (by simp [SOp.args]),h.ev i (by simp [SOp.args])];exact hc
 | mkb ty bs z x=>simp only [cond] at hc ⊢;rw [h.ev x (by simp [SOp.args])];exact hc
 | ext x i=>simp only [cond] at hc ⊢;rw [h.ev x (by simp [SOp.args])];exact hc
 | len ty x=>simp only [cond] at hc ⊢;rw [h.ev x (by simp [SOp.args])];exact hc
 | app ty sz bs x y=>
  simp only [cond] at hc ⊢;rw [h.ev x (by simp [SOp.args]),h.ev y (by simp [SOp.args]),elems_same (h.keys (by simp [SOp.args,SOp.kargs]))]
  refine ⟨hc.1,hc.2.1,fun hb q hq=>⟨(hc.2.2 hb q hq).1,?_⟩⟩
  have h3:=(hc.2.2 hb q hq).2
  split
  ·rename_i e;rw [e] at h3;exact h3
  ·rename_i k t e
   rw [e] at h3
   rw [(h.keys (x:=x) (by simp [SOp.args,SOp.kargs]) k (keys_own e)).1]
   exact h3
  ·trivial
 | appm ty sz bs x y=>simp only [cond] at hc ⊢;rw [h.ev x (by simp [SOp.args]),h.ev y (by simp [SOp.args]),elems_same (h.keys (by simp [SOp.args,SOp.kargs])),mrowAt_same (h.keys (by simp [SOp.args,SOp.kargs]))];exact hc
 | cut ty sz x y=>simp only [cond] at hc ⊢;rw [h.ev x (by simp [SOp.args]),h.ev y (by simp [SOp.args]),rowAt_same (h.keys (by simp [SOp.args,SOp.kargs]))];exact hc
 | shr ty sz bs x y=>simp only [cond] at hc ⊢;rw [h.ev x (by simp [SOp.args]),h.ev y (by simp [SOp.args]),mrowAt_same (h.keys (by simp [SOp.args,SOp.kargs]))];exact hc
 | mki ty x=>simp only [cond] at hc ⊢;rw [h.ev x (by simp [SOp.args])];exact hc
 | nileq neg x=>simp only [cond] at hc ⊢;rw [h.ev x (by simp [SOp.args])];exact hc
 | appn ty sz bs x y=>simp only [cond] at hc ⊢;rw [h.ev x (by simp [SOp.args]),h.ev y (by simp [SOp.args]),elems_same (h.keys (by simp [SOp.args,SOp.kargs]))];exact hc
 | tas ty x=>simp only [cond] at hc ⊢;rw [h.ev x (by simp [SOp.args])];exact hc
 | pan x=>simp only [cond] at hc ⊢;rw [h.ev x (by simp [SOp.args])];exact hc
 | best mx xs=>simp only [cond] at hc ⊢;exact fun x hx=>by rw [h.ev x hx];exact hc x hx
 | call f xs=>trivial
 | inv f bp ty s xs=>trivial
def SO.looks (so:SO):List Nat:=(so.op.args.filterMap fun | .t m=>some m | _=>none) ++ (match so.gd with | some (s,_)=>[s] | none=>[])
theorem ev_same {op:SOp} {l:List Nat} (h:∀ s,s ∈ (op.args.filterMap fun | .t m=>some m | _=>none) → σ'.sl s=σ.sl s):∀ x,x ∈ op.args → σ'.ev x=σ.ev x:=fun x hx=>by
 cases x with
 | t m=>exact h m (List.mem_filterMap.2 ⟨_,hx,rfl⟩)
 | _=>rfl
theorem toD2_same {x:AV} (h:∀ k,k ∈ x.keys2 → σ'.ob k=σ.ob k ∧ σ'.tg k=σ.tg k):toD2 σ' x=toD2 σ x:=by
 cases x with
 | c x=>simp only [toD2,toD1];rw [toD_same h]
 | agg l=>simp only [toD2,toD1];rw [toD_sames h]
 | tup l=>rfl
 | gd b x=>rfl
theorem sem_same {base:Nat} {so:SO} (hsl:∀ s,s ∈ so.looks → σ'.sl s=σ.sl s) (hob:∀ k,k ∈ opKeys σ so.op ++ e.rd ++ wrote e → σ'.ob k=σ.ob k ∧ σ'.tg k=σ.tg k) (hkey:σ'.tg (base + so.dst.getD 0)=σ.tg (base + so.dst.getD 0))
  (hs:SemO P base so σ e):SemO P base so σ' e:=by
 obtain ⟨β,hβ,hs⟩:=hs
 have hS:Same σ σ' so.op:=⟨ev_same (l:=[]) fun s hs=>hsl s (List.mem_append.2 (.inl hs)),fun k hk=>hob k (by simp [hk])⟩
 refine ⟨β,?_,?_⟩
 ·cases hg:so.gd with
  | none=>rw [hg] at hβ;exact hβ
  | some q=>
   obtain ⟨s,want⟩:=q
   rw [hg] at hβ
   simp only [gdOf] at hβ ⊢
   rw [hsl s (by simp [SO.looks,hg])]
   exact hβ
 ·cases hop:so.op
  case call f xs=>
   rw [hop] at hs hS
   obtain ⟨fn,k1,k2,ins,outs,res,pur,ps,hC,hps,hg,rfl⟩:=hs
   refine ⟨fn,k1,k2,ins,outs,res,pur,ps,?_,hps,hg,rfl⟩
   have e1:=hS.ev f (by simp [SOp.args])
   have e2:xs.map σ'.ev=xs.map σ.ev:=hS.map fun x hx=>by simp [SOp.args,hx]
   have e3:(xs.map σ.ev).map (fun x=>toD2 σ' (un x))=(xs.map σ.ev).map (fun x=>toD2 σ (un x)):=List.map_congr_left fun y hy=>by
    obtain ⟨x,hx,rfl⟩:=List.mem_map.1 hy
    exact toD2_same fun k hk=>hS.keys (x:=x) (by simp [SOp.args,SOp.kargs,hx]) k hk
   have lk:∀ {l:Objs} {k:Nat} {x:Nat × Obj},l.lookup k=some x → k ∈ l.map (·.1):=fun {l k x} h=>by
    induction l with
    | nil=>simp at h
    | cons y l ih=>
     obtain ⟨k',y⟩:=y
     rw [List.lookup_cons] at h
     split at h
     ·rename_i hk;simp at hk;simp [hk]
     ·simp [ih h]
   have hin:∀ k t q,ins.lookup k=some (t,q) → σ'.ob k=σ.ob k ∧ σ'.tg k=σ.tg k:=fun k t q hk=>hob k (by simp only [List.mem_append];exact .inl (.inr (lk hk)))
   have hou:∀ k t q,outs.lookup k=some (t,q) → σ'.ob k=σ.ob k ∧ σ'.tg k=σ.tg k:=fun k t q hk=>by
    rcases hps with h | ⟨_,h,_⟩
    ·refine hob k ?_
     have:=lk hk
     simp only [List.mem_append,wrote,h,objsOf,List.map_map]
     exact .inr (.inr (by simpa [Function.comp_def] using this))
    ·rw [h] at hk;exact hin k t q hk
   rw [e1,e2]
   exact
    {c0:=hC.c0,gf:=hC.gf,gx:=hC.gx,cs:=fun hb=>by rw [e3];exact hC.cs hb
     ci:=fun k t q hk=>by
      obtain ⟨h1,h2⟩:=hin k t q hk
      rw [h1,h2];exact hC.ci k t q hk
     co:=fun k t q hk=>by
      obtain ⟨h1,h2⟩:=hou k t q hk
      rw [h2];exact hC.co k t q hk
     cp:=hC.cp,kres:=hC.kres,kobs:=hC.kobs }
  case inv f bp ty s xs=>
   rw [hop] at hs hS
   obtain ⟨hgs,fn,k1,k2,ins,outs,res,pur,ps,hC,hps,hg,rfl⟩:=hs
   have es:σ'.sl s=σ.sl s:=hS.ev (.t s) (by simp [SOp.args])
   have er:rcvE σ' bp ty (un (σ'.sl s))=rcvE σ bp ty (un (σ.sl s)):=by
    rw [es]
    cases hx:un (σ.sl s) with
    | c x=>
     cases x with
     | ifc ty' k t=>
      obtain ⟨q1,q2⟩:=hS.keys (x:=.t s) (by simp [SOp.args,SOp.kargs]) k (by simp [St.ev,hx,AV.keys2,AV.keys1,Cell.keys])
      simp only [rcvE,q1,q2]
     | _=>rfl
    | _=>rfl
   refine ⟨by rw [es];exact hgs,fn,k1,k2,ins,outs,res,pur,ps,?_,hps,hg,by rw [er]⟩
   have e2:xs.map σ'.ev=xs.map σ.ev:=hS.map fun x hx=>by simp [SOp.args,hx]
   have e4:(xs.map σ.ev).map (fun x=>toD2 σ' (un x))=(xs.map σ.ev).map (fun x=>toD2 σ (un x)):=List.map_congr_left fun y hy=>by
    obtain ⟨x,hx,rfl⟩:=List.mem_map.1 hy
    exact toD2_same fun k hk=>hS.keys (x:=x) (by simp [SOp.args,SOp.kargs,hx]) k hk
   have e3:(rcvE σ bp ty (un (σ.sl s)) :: xs.map σ.ev).map (fun x=>toD2 σ' (un x))=(rcvE σ bp ty (un (σ.sl s)) :: xs.map σ.ev).map (fun x=>toD2 σ (un x)):=by
    simp only [List.map_cons]
    rw [e4,toD2_same fun k hk=>hob k (by simp only [List.mem_append];exact .inl (.inr (.inl hk)))]
   have lk:∀ {l:Objs} {k:Nat} {x:Nat × Obj},l.lookup k=some x → k ∈ l.map (·.1):=fun {l k x} h=>by
    induction l with
    | nil=>simp at h
    | cons y l ih=>
     obtain ⟨k',y⟩:=y
     rw [List.lookup_cons] at h
     split at h
     ·rename_i hk;simp at hk;simp [hk]
     ·simp [ih h]
   have hin:∀ k t q,ins.lookup k=some (t,q) → σ'.ob k=σ.ob k ∧ σ'.tg k=σ.tg k:=fun k t q hk=>hob k (by simp only [List.mem_append];exact .inl (.inr (.inr (lk hk))))
   have hou:∀ k t q,outs.lookup k=some (t,q) → σ'.ob k=σ.ob k ∧ σ'.tg k=σ.tg k:=fun k t q hk=>by
    rcases hps with h | ⟨_,h,_⟩
    ·refine hob k ?_
     have:=lk hk
     simp only [List.mem_append,wrote,h,objsOf,List.map_map]
     exact .inr (.inr (by simpa [Function.comp_def] using this))
    ·rw [h] at hk;exact hin k t q hk
   rw [er,e2]
   exact
    {c0:=hC.c0,gf:=hC.gf,gx:=hC.gx,cs:=fun hb=>by rw [e3];exact hC.cs hb
     ci:=fun k t q hk=>by
      obtain ⟨h1,h2⟩:=hin k t q hk
      rw [h1,h2];exact hC.ci k t q hk
     co:=fun k t q hk=>by
      obtain ⟨h1,h2⟩:=hou k t q hk
      rw [h2];exact hC.co k t q hk
     cp:=hC.cp,kres:=hC.kres,kobs:=hC.kobs }
  all_goals
   simp only [hop] at hs
   rw [hop] at hS
   obtain ⟨e0,h1,h2,h4⟩:=hs
   rw [← ev1_same hS hkey] at h1 h2
   refine ⟨e0,h1,?_,h4⟩
   refine condG_imp (fun h=>cond_same hS h) h2
theorem ap_sl {dst:Option Nat} {s:Nat} (h:dst ≠ some s):(σ.ap dst e).sl s=σ.sl s:=by
 cases dst with
 | none=>rfl
 | some d=>simp only [St.ap,upd];rw [if_neg fun h'=>h (by rw [h'])]
theorem ap_ob {dst:Option Nat} {k:Nat} (h:k ∉ wrote e):(σ.ap dst e).ob k=σ.ob k ∧ (σ.ap dst e).tg k=σ.tg k:=by
 simp only [wrote,List.mem_append,not_or,List.mem_map,not_exists,not_and] at h
 have h1:e.put.lookup k=none:=by
  rw [List.lookup_eq_none_iff]
  intro p hp
  have:=h.2 p hp
  simpa using fun h'=>this h'.symm
 have h2:e.pur.contains k=false:=by simpa using h.1
 constructor
 ·simp only [St.ap,obAfter,h1,h2];rfl
 ·simp only [St.ap,h2];rfl
theorem ap_comm {d1 d2:Option Nat} {e1 e2:Eff} (hd:∀ s,d1=some s → d2 ≠ some s) (hw:∀ k,k ∈ wrote e1 → k ∉ wrote e2):(σ.ap d1 e1).ap d2 e2=(σ.ap d2 e2).ap d1 e1:=by
 have h1:∀ s,((σ.ap d1 e1).ap d2 e2).sl s=((σ.ap d2 e2).ap d1 e1).sl s:=fun s=>by
  by_cases c1:d1=some s
  ·have c2:=hd s c1
   rw [ap_sl c2];subst c1;simp [St.ap,upd]
  ·rw [ap_sl (dst:=d1) c1]
   by_cases c2:d2=some s
   ·subst c2;simp [St.ap,upd]
   ·rw [ap_sl c2,ap_sl c1,ap_sl c2]
 have h2:∀ k,((σ.ap d1 e1).ap d2 e2).ob k=((σ.ap d2 e2).ap d1 e1).ob k ∧ ((σ.ap d1 e1).ap d2 e2).tg k=((σ.ap d2 e2).ap d1 e1).tg k:=fun k=>by
  by_cases c1:k ∈ wrote e1
  ·have c2:=hw k c1
   obtain ⟨q1,q2⟩:=ap_ob (σ:=σ.ap d1 e1) (dst:=d2) c2
   obtain ⟨q3,q4⟩:=ap_ob (σ:=σ) (dst:=d2) c2
   rw [q1,q2]
   simp only [St.ap,obAfter] at q3 q4 ⊢
   simp only [q3,q4,and_self]
  ·obtain ⟨q1,q2⟩:=ap_ob (σ:=σ.ap d2 e2) (dst:=d1) c1
   obtain ⟨q3,q4⟩:=ap_ob (σ:=σ) (dst:=d1) c1
   rw [q1,q2]
   simp only [St.ap,obAfter] at q3 q4 ⊢
   simp only [q3,q4,and_self]
 have:∀ x y:St,(∀ s,x.sl s=y.sl s) → (∀ k,x.ob k=y.ob k ∧ x.tg k=y.tg k) → x=y:=fun x y a b=>by
  cases x;cases y
  congr
  ·exact funext a
  ·exact funext fun k=>(b k).1
  ·exact funext fun k=>(b k).2
 exact this _ _ h1 h2
structure TE where
 i:Nat
 wr:List Nat
 lk:List Nat
def lkOf (base:Nat) (so:SO) (σ:St) (e:Eff):List Nat:=(base + so.dst.getD 0) :: (opKeys σ so.op ++ e.rd ++ wrote e)
inductive Tr (P:Program) (base:Nat) (sos:List SO):List Nat → St → List TE → St → Prop where
 | nil (σ:St):Tr P base sos [] σ [] σ
 | cons {i:Nat} {l:List Nat} {σ σ':St} {so:SO} {e:Eff} {tr:List TE} (h:sos[i]? = some so) (hs:SemO P base so σ e) (ht:Tr P base sos l (σ.ap so.dst e) tr σ') :
   Tr P base sos (i :: l) σ (⟨i,wrote e,lkOf base so σ e⟩ :: tr) σ'
structure ApartT (sos:List SO) (x y:TE):Prop where
 d:∀ so so',sos[x.i]? = some so → sos[y.i]? = some so' → (∀ s,so.dst=some s → so'.dst ≠ some s ∧ s ∉ so'.looks) ∧ ∀ s,so'.dst=some s → s ∉ so.looks
 k1:∀ k,k ∈ x.wr → k ∉ y.lk
 k2:∀ k,k ∈ y.wr → k ∉ x.lk
theorem wr_lk {base:Nat} {so:SO} {k:Nat} (h:k ∈ wrote e):k ∈ lkOf base so σ e:=by simp [lkOf,h]
theorem opKeys_same {op:SOp} (h:∀ x,x ∈ op.args → σ'.ev x=σ.ev x):opKeys σ' op=opKeys σ op:=by
 simp only [opKeys,List.flatMap]
 rw [List.map_congr_left fun x hx=>by rw [h x (kargs_args hx)]]
theorem Tr.swap {base:Nat} {sos:List SO} {i j:Nat} {l:List Nat} {x y:TE} {tr:List TE} (h:Tr P base sos (i :: j :: l) σ (x :: y :: tr) σ') (ha:ApartT sos x y):Tr P base sos (j :: i :: l) σ (y :: x :: tr) σ':=by
 cases h with
 | cons h hs ht=>
  rename_i so e
  cases ht with
  | cons h' hs' ht'=>
   rename_i so' e'
   obtain ⟨hd,k1,k2⟩:=ha
   obtain ⟨hd1,hd2⟩:=hd so so' h h'
   simp only at k1 k2
   have sl1:∀ s,s ∈ so'.looks → (σ.ap so.dst e).sl s=σ.sl s:=fun s hs=>ap_sl fun he=>(hd1 s he).2 hs
   have sl2:∀ s,s ∈ so.looks → (σ.ap so'.dst e').sl s=σ.sl s:=fun s hs=>ap_sl fun he=>hd2 s he hs
   have ok:opKeys (σ.ap so.dst e) so'.op=opKeys σ so'.op:=opKeys_same (ev_same (l:=[]) fun s hs=>sl1 s (List.mem_append.2 (.inl hs)))
   have n1:∀ k,k ∈ lkOf base so' (σ.ap so.dst e) e' → (σ.ap so.dst e).ob k=σ.ob k ∧ (σ.ap so.dst e).tg k=σ.tg k:=fun k hk=>ap_ob fun hw=>k1 k hw hk
   have n2:∀ k,k ∈ lkOf base so σ e → (σ.ap so'.dst e').ob k=σ.ob k ∧ (σ.ap so'.dst e').tg k=σ.tg k:=fun k hk=>ap_ob fun hw=>k2 k hw hk
   have hlk:lkOf base so' (σ.ap so.dst e) e'=lkOf base so' σ e':=by simp only [lkOf,ok]
   have s1:SemO P base so' σ e':=sem_same (σ:=σ.ap so.dst e) (fun s hs=>(sl1 s hs).symm) (fun k hk=>by
    obtain ⟨q1,q2⟩:=n1 k (by simp only [lkOf,List.mem_cons];exact .inr hk)
    exact ⟨q1.symm,q2.symm⟩) ((n1 _ (by simp [lkOf])).2.symm) hs'
   have s2:SemO P base so (σ.ap so'.dst e') e:=sem_same (σ:=σ) sl2 (fun k hk=>n2 k (by simp only [lkOf,List.mem_cons];exact .inr hk)) (n2 _ (by simp [lkOf])).2 hs
   rw [hlk]
   have hlk2:lkOf base so σ e=lkOf base so (σ.ap so'.dst e') e:=by
    simp only [lkOf]
    rw [opKeys_same (σ':=σ.ap so'.dst e') (ev_same (l:=[]) fun s hs=>sl2 s (List.mem_append.2 (.inl hs)))]
   refine .cons h' s1 ?_
   rw [hlk2]
   refine .cons h s2 ?_
   rw [ap_comm (fun s hs he=>(hd1 s he).1 hs) fun k hk hk'=>k1 k hk' (wr_lk hk)]
   exact ht'
end Go.Abs

namespace Go.Abs
variable {P:Program} {I:Init} {n:Nat} {σ σ':St} {g g':Gh} {a:Act} {w w':World} {o:Oper} {e:Eff}
theorem Tr.front {base:Nat} {sos:List SO} {j:Nat} {post:List Nat} {y:TE} {tq:List TE}:∀ {pre:List Nat} {tp:List TE} {σ:St},tp.length=pre.length → Tr P base sos (pre ++ j :: post) σ (tp ++ y :: tq) σ' →
  (∀ x,x ∈ tp → ApartT sos x y) → Tr P base sos (j :: (pre ++ post)) σ (y :: (tp ++ tq)) σ'
 | [],[],_,_,h,_=>h
 | [],_ :: _,_,hl,_,_=>by simp at hl
 | _ :: _,[],_,hl,_,_=>by simp at hl
 | i :: pre,x :: tp,σ,hl,h,ha=>by
  have hx:=ha x (by simp)
  simp only [List.cons_append] at h ⊢
  cases h with
  | cons h hs ht=>
   have ih:=Tr.front (by simpa using hl) ht fun z hz=>ha z (by simp [hz])
   exact Tr.swap (.cons h hs ih) hx
theorem Tr.idx {base:Nat} {sos:List SO} {l:List Nat} {tr:List TE} (h:Tr P base sos l σ tr σ'):tr.map (·.i)=l:=by
 induction h with
 | nil=>rfl
 | cons _ _ _ ih=>simp [ih]
def maskOf (anc:List Nat) (l:List Edge):Nat:=match l with
 | []=>0
 | e :: l=>if Region.binds .any e then ((1 <<< e.on) ||| anc.getD e.on 0) ||| maskOf anc l else maskOf anc l
theorem maskOf_spec {anc:List Nat} {i:Nat}:∀ {l:List Edge},(maskOf anc l).testBit i=true → ∃ e,e ∈ l ∧ Region.binds .any e=true ∧ (e.on=i ∨ (anc.getD e.on 0).testBit i=true)
 | [],h=>by simp [maskOf] at h
 | e :: l,h=>by
  simp only [maskOf] at h
  split at h
  ·rename_i hb
   rw [Nat.testBit_or,Nat.testBit_or,Bool.or_eq_true,Bool.or_eq_true] at h
   rcases h with (h | h) | h
   ·refine ⟨e,by simp,hb,.inl ?_⟩
    rw [Nat.testBit_shiftLeft] at h
    simp at h
    obtain ⟨h1,h2⟩:=h
    have:i - e.on=0:=by
     by_cases h0:i - e.on=0
     ·exact h0
     ·have:=Nat.testBit_one_eq_true_iff_self_eq_zero.1 h2;omega
    omega
   ·exact ⟨e,by simp,hb,.inr h⟩
   ·obtain ⟨e',h1,h2⟩:=maskOf_spec h
    exact ⟨e',by simp [h1],h2⟩
  ·obtain ⟨e',h1,h2⟩:=maskOf_spec h
   exact ⟨e',by simp [h1],h2⟩
def okAnc (anc:List Nat) (ops:Array Oper):Bool:=
 (List.range ops.size).all fun j=>match ops[j]? with
  | some o=>decide (anc.getD j 0=maskOf anc o.after.toList) && o.after.toList.all fun e=>!Region.binds .any e || decide (e.on < j)
  | none=>false
structure AncOK (anc:List Nat) (ops:Array Oper):Prop where
 back:∀ (j:Nat) (o:Oper),ops[j]? = some o → ∀ e,e ∈ o.after → Region.binds .any e=true → e.on < j
 mask:∀ (j i:Nat) (o:Oper),ops[j]? = some o → (anc.getD j 0).testBit i=true → ∃ e,e ∈ o.after ∧ Region.binds .any e=true ∧ (e.on=i ∨ (anc.getD e.on 0).testBit i=true)
theorem okAnc_spec {anc:List Nat} {ops:Array Oper} (h:okAnc anc ops=true):AncOK anc ops:=by
 simp only [okAnc,List.all_eq_true,List.mem_range] at h
 have one:∀ j o,ops[j]? = some o → anc.getD j 0=maskOf anc o.after.toList ∧ ∀ e,e ∈ o.after → Region.binds .any e=true → e.on < j:=fun j o ho=>by
  have:=h j (Array.getElem?_eq_some_iff.1 ho).1
  rw [ho] at this
  simp only [Bool.and_eq_true,decide_eq_true_eq,List.all_eq_true] at this
  refine ⟨this.1,fun e he hb=>?_⟩
  have:=this.2 e (by simpa using he)
  rw [hb] at this
  simpa using this
 refine ⟨fun j o ho=>(one j o ho).2,fun j i o ho hb=>?_⟩
 rw [(one j o ho).1] at hb
 obtain ⟨e,h1,h2⟩:=maskOf_spec hb
 exact ⟨e,by simpa using h1,h2⟩
def apartS (x y:SO):Bool:=
 (match x.dst with | some d=>decide (y.dst ≠ some d) && !y.looks.contains d | none=>true) && (match y.dst with | some d=>!x.looks.contains d | none=>true)
def okApart (anc:List Nat) (sos:List SO):Bool:=
 (List.range sos.length).all fun j=>(List.range j).all fun i=>(anc.getD j 0).testBit i || match sos[i]?,sos[j]? with
  | some x,some y=>apartS x y
  | _,_=>false
def kOK (x y:TE):Bool:=x.wr.all (fun k=>!y.lk.contains k) && y.wr.all (fun k=>!x.lk.contains k)
def fineW (anc:List Nat) (tr:List TE):Bool:=
 (tr.filter fun x=>!x.wr.isEmpty).all fun x=>tr.all fun y=>decide (x.i=y.i) || (anc.getD y.i 0).testBit x.i || (anc.getD x.i 0).testBit y.i || kOK x y
def listedB (listed:Array Bool) (i:Nat):Prop:=listed.getD i false=true
theorem anc_listed {anc:List Nat} {ops:Array Oper} (hA:AncOK anc ops) {listed:Array Bool}
  (down:∀ (j:Nat) (o:Oper),ops[j]? = some o → listedB listed j → ∀ e,e ∈ o.after → Region.binds .any e=true → listedB listed e.on):∀ (j:Nat) (o:Oper),ops[j]? = some o →
  (∀ e,e ∈ o.after → Region.binds .any e=true → listedB listed e.on) → ∀ i,(anc.getD j 0).testBit i=true → listedB listed i ∧ i < j:=by
 intro j
 induction j using Nat.strongRecOn with
 | ind j ih=>
  intro o ho hp i hi
  obtain ⟨e,h1,h2,h3⟩:=hA.mask j i o ho hi
  have hlt:=hA.back j o ho e h1 h2
  have hl:=hp e h1 h2
  rcases h3 with h3 | h3
  ·subst h3;exact ⟨hl,hlt⟩
  ·have hs:e.on < ops.size:=Nat.lt_trans hlt (Array.getElem?_eq_some_iff.1 ho).1
   obtain ⟨q1,q2⟩:=ih e.on hlt ops[e.on] (Array.getElem?_eq_getElem hs) (down _ _ (Array.getElem?_eq_getElem hs) hl) i h3
   exact ⟨q1,Nat.lt_trans q2 hlt⟩
theorem anc_lt {anc:List Nat} {ops:Array Oper} (hA:AncOK anc ops):∀ (j:Nat) (o:Oper),ops[j]? = some o → ∀ i,(anc.getD j 0).testBit i=true → i < j:=by
 intro j
 induction j using Nat.strongRecOn with
 | ind j ih=>
  intro o ho i hi
  obtain ⟨e,h1,h2,h3⟩:=hA.mask j i o ho hi
  have hlt:=hA.back j o ho e h1 h2
  rcases h3 with h3 | h3
  ·subst h3;exact hlt
  ·have hs:e.on < ops.size:=Nat.lt_trans hlt (Array.getElem?_eq_some_iff.1 ho).1
   exact Nat.lt_trans (ih e.on hlt ops[e.on] (Array.getElem?_eq_getElem hs) i h3) hlt
def okOps (P:Program) (n:Nat) (ops:Array Oper):List Oper → List SO → Bool
 | [],[]=>true
 | o :: os,so :: sos=>okSO P n ops o so && okOps P n ops os sos
 | _,_=>false
theorem okOps_get {ops:Array Oper}:∀ {os:List Oper} {sos:List SO},okOps P n ops os sos=true → ∀ (i:Nat) so,sos[i]? = some so → ∃ o,os[i]? = some o ∧ okSO P n ops o so=true
 | [],[],_,i,so,h=>by simp at h
 | o :: os,so :: sos,h,0,so',hi=>by simp [okOps] at h;simp at hi;subst hi;exact ⟨o,rfl,h.1⟩
 | o :: os,so :: sos,h,i + 1,so',hi=>by simp [okOps] at h;simpa using okOps_get h.2 i so' (by simpa using hi)
 | [],_ :: _,h,_,_,_=>by simp [okOps] at h
 | _ :: _,[],h,_,_,_=>by simp [okOps] at h
theorem okOps_len {ops:Array Oper}:∀ {os:List Oper} {sos:List SO},okOps P n ops os sos=true → os.length=sos.length
 | [],[],_=>rfl
 | o :: os,so :: sos,h=>by simp [okOps] at h;simp [okOps_len h.2]
 | [],_ :: _,h=>by simp [okOps] at h
 | _ :: _,[],h=>by simp [okOps] at h
theorem one_op {base:Nat} {ops:Array Oper} {sos:List SO} {i:Nat} {so:SO} {Q:Exit → Act → World → Prop} {K:Act → World → Prop} (hR:Rel I n σ g a w) (hok:okOps P n ops ops.toList sos=true)
  (hi:sos[i]? = some so) (hs:SemO P base so σ e) (hK:∀ a' w' g',Rel I n (σ.ap so.dst e) g' a' w' → K a' w'):wpOp P ops Q i K a w:=by
 obtain ⟨o,ho,hso⟩:=okOps_get hok i so hi
 have ho:ops[i]? = some o:=by simpa using ho
 have:=op_sound (Q:=Q) hR hso hs hK
 unfold wpOp
 simp only [ho]
 split
 ·rename_i hw;rw [if_pos hw] at this;exact .inl this
 ·rename_i hw;rw [if_neg hw] at this;exact this
theorem draw_sound {base:Nat} {ops:Array Oper} {sos:List SO} {anc:List Nat} {Q:Exit → Act → World → Prop} (hok:okOps P n ops ops.toList sos=true) (hA:AncOK anc ops) (hQ:∀ a w g,Rel I n σ' g a w → Q .normal a w) :
  ∀ (fuel:Nat) (listed:Array Bool) (rem:List Nat) (σ:St) (tr:List TE) (g:Gh) (a:Act) (w:World),listed.size=ops.size → rem.length ≤ fuel → (∀ j,j ∈ rem ↔ listed.getD j true=false) → rem.Pairwise (· < ·) → Tr P base sos rem σ tr σ' →
   tr.Pairwise (fun x y=>(anc.getD y.i 0).testBit x.i=true ∨ (anc.getD x.i 0).testBit y.i=true ∨ ApartT sos x y) →
   (∀ (j:Nat) (o:Oper),ops[j]? = some o → listedB listed j → ∀ e,e ∈ o.after → Region.binds .any e=true → listedB listed e.on) → Rel I n σ g a w → wpAny P .any ops Q fuel listed a w:=by
 intro fuel
 induction fuel with
 | zero=>
  intro listed rem σ tr g a w hsz hl hrem _ ht _ _ hR
  have:rem=[]:=List.length_eq_zero_iff.1 (by omega)
  subst this
  cases ht
  refine ⟨?_,hQ _ _ _ hR⟩
  rw [List.eq_nil_iff_forall_not_mem]
  intro j hj
  have:=(hrem j).2 (mem_ready.1 hj).1
  simp at this
 | succ fuel ih=>
  intro listed rem σ tr g a w hsz hl hrem hpw ht hfine down hR
  have lsz:∀ j,j < ops.size → (listed.getD j true=false ↔ ¬ listedB listed j):=fun j hj=>by
   simp [listedB,Array.getD,hsz,hj]
  refine ⟨fun hr=>?_,fun i hi=>?_⟩
  ·cases rem with
   | nil=>cases ht;exact hQ _ _ _ hR
   | cons i rem=>
    exfalso
    have hun:=(hrem i).1 (by simp)
    have hlt:i < ops.size:=by
     by_cases h:i < ops.size
     ·exact h
     ·simp [Array.getD,hsz,h] at hun
    have:i ∈ Region.ready .any ops listed:=mem_ready.2 ⟨hun,ops[i],Array.getElem?_eq_getElem hlt,fun e he hb=>by
     have hon:=hA.back i _ (Array.getElem?_eq_getElem hlt) e he hb
     by_cases hle:listedB listed e.on
     ·exact hle
     ·have:=(hrem e.on).2 ((lsz _ (by omega)).2 hle)
      rcases List.mem_cons.1 this with h | h
      ·omega
      ·have:=(List.pairwise_cons.1 hpw).1 _ h
       omega⟩
    rw [hr] at this
    cases this
  ·obtain ⟨hun,oi,hoi,hall⟩:=mem_ready.1 hi
   have him:=(hrem i).2 hun
   obtain ⟨pre,post,rfl⟩:=List.append_of_mem him
   have hidx:=ht.idx
   obtain ⟨tp,ty,e1,e2,e3⟩:=List.map_eq_append_iff.1 hidx
   obtain ⟨y,tq,rfl,e4,e5⟩:=List.map_eq_cons_iff.1 e3
   subst e1
   have hlt:i < ops.size:=(Array.getElem?_eq_some_iff.1 hoi).1
   have hap:∀ x,x ∈ tp → ApartT sos x y:=fun x hx=>by
    have hx1:x.i ∈ pre:=by rw [← e2];exact List.mem_map_of_mem hx
    have hxi:x.i < i:=by
     have:=(List.pairwise_append.1 hpw).2.2 x.i hx1 i (by simp)
     exact this
    rcases (List.pairwise_append.1 hfine).2.2 x hx y (by simp) with h | h | h
    ·exfalso
     rw [e4] at h
     have:=(anc_listed hA down i oi hoi (fun e he hb=>hall e he hb) x.i h).1
     have h2:=(hrem x.i).1 (by simp [hx1])
     exact (lsz _ (by omega)).1 h2 this
    ·exfalso
     rw [e4] at h
     have:=anc_lt hA x.i ops[x.i] (Array.getElem?_eq_getElem (by omega)) i h
     omega
    ·exact h
   have hfr:=Tr.front (by rw [← e2];simp) ht hap
   cases hfr with
   | cons h hs ht'=>
    rename_i so e
    refine one_op hR hok h hs fun a' w' g' hR'=>?_
    refine ih _ (pre ++ post) _ (tp ++ tq) g' a' w' (by simpa using hsz) (by simp at hl ⊢;omega) (fun j=>?_) ?_ ht' ?_ (fun j o ho hj e he hb=>?_) hR'
    ·by_cases hji:j=i
     ·subst hji
      constructor
      ·intro hm
       exfalso
       rcases List.mem_append.1 hm with h | h
       ·have:=(List.pairwise_append.1 hpw).2.2 j h j (by simp);omega
       ·have:=(List.pairwise_cons.1 (List.pairwise_append.1 hpw).2.1).1 j h;omega
      ·intro hm
       exfalso
       simp [Array.getD,hsz,hlt] at hm
     ·rw [getD_set_ne true (Ne.symm hji),← hrem j]
      simp [hji]
    ·exact hpw.sublist (by simp)
    ·exact hfine.sublist (by simp)
    ·by_cases hji:j=i
     ·subst hji
      rw [hoi] at ho;cases ho
      exact getD_set_true (hall e he hb)
     ·refine getD_set_true (down j o ho ?_ e he hb)
      unfold listedB at hj ⊢
      rw [getD_set_ne false (Ne.symm hji)] at hj
      exact hj
end Go.Abs

namespace Go.Abs
variable {P:Program} {I:Init} {n:Nat} {σ σ':St} {g g':Gh} {a:Act} {w w':World} {o:Oper} {e:Eff}
def SOp.isCall:SOp → Bool
 | .call _ _=>true
 | .inv _ _ _ _ _=>true
 | _=>false
def RealA (x:AV):Prop:=∃ g w v,RV g w x v
def W1 (P:Program) (base:Nat) (so:SO) (σ:St) (K:St → Prop):Prop:=∃ e,SemO P base so σ e ∧ ((∀ d,so.dst=some d → so.op.isCall=true → RealA e.val) → K (σ.ap so.dst e))
def WOps (P:Program) (base:Nat):List SO → St → (St → Prop) → Prop
 | [],σ,K=>K σ
 | so :: l,σ,K=>W1 P base so σ fun σ'=>WOps P base l σ' K
def WD (P:Program) (base:Nat) (anc:List Nat):Nat → List SO → St → List TE → (St → Prop) → Prop
 | _,[],σ,tr,K=>fineW anc tr.reverse=true ∧ K σ
 | i,so :: l,σ,tr,K=>∃ e,SemO P base so σ e ∧ WD P base anc (i + 1) l (σ.ap so.dst e) (⟨i,wrote e,lkOf base so σ e⟩ :: tr) K
inductive SEx where
 | normal
 | exit (id:Nat)
 | ret
def St.frz (σ:St) (k ty sz bs:Nat) (es:List (List Cell)):St:={ σ with ob:=fun k'=>if k'=k then some (.row ty sz bs es) else σ.ob k' }
def onSeq (K:St → Prop) (Q:SEx → St → Prop):SEx → St → Prop
 | .normal,σ=>K σ
 | e,σ=>Q e σ
def onBlock (id:Nat) (Q:SEx → St → Prop):SEx → St → Prop
 | .exit id',σ=>if id'=id then Q .normal σ else Q (.exit id') σ
 | e,σ=>Q e σ
def St.stl (σ:St) (B tb:Nat) (cs:List Cell) (i k K:Nat) (q:Obj):St where
 sl:=σ.sl
 ob:=fun x=>if x=B then some (.box tb (cs.set i (.own K (σ.tg K + 1)))) else if x=K then some q else if x=k then none else σ.ob x
 tg:=fun x=>if x=K then σ.tg K + 1 else σ.tg x
def St.adb (σ:St) (B tb:Nat) (cs:List Cell) (i K ty sz bs:Nat) (es:List (List Cell)):St where
 sl:=σ.sl
 ob:=fun x=>if x=B then some (.box tb (cs.set i (.own K (σ.tg K + 1)))) else if x=K then some (.row ty sz bs es) else σ.ob x
 tg:=fun x=>if x=K then σ.tg K + 1 else σ.tg x
def St.ads (σ:St) (s K ty sz bs:Nat) (es:List (List Cell)):St where
 sl:=upd σ.sl s (.c (.own K (σ.tg K + 1)))
 ob:=fun x=>if x=K then some (.row ty sz bs es) else σ.ob x
 tg:=fun x=>if x=K then σ.tg K + 1 else σ.tg x
def St.nz (σ:St) (s k ty sz bs:Nat) (es:List (List Cell)):St:={ σ with sl:=upd σ.sl s (.c (.nsl sz bs es)),ob:=fun k'=>if k'=k then some (.row ty sz bs es) else σ.ob k' }
def isRow:Obj → Bool
 | .row ..=>true
 | .mrow ..=>true
 | _=>false
inductive Ghs:St → St → Prop where
 | refl (σ:St):Ghs σ σ
 | stl {σ σ':St} (B tb:Nat) (cs:List Cell) (i k t K:Nat) (q:Obj) (hB:σ.ob B=some (.box tb cs)) (hc:cs[i]? = some (.own k t)) (ht:t=σ.tg k) (hk:σ.ob k=some q) (hq:isRow q=true) (hK:K ≠ B) (h:Ghs (σ.stl B tb cs i k K q) σ'):Ghs σ σ'
 | adb {σ σ':St} (B tb:Nat) (cs:List Cell) (i K ty sz bs:Nat) (es:List (List Cell)) (hB:σ.ob B=some (.box tb cs)) (hc:cs[i]? = some (.cap sz bs es)) (hK:K ≠ B) (h:Ghs (σ.adb B tb cs i K ty sz bs es) σ'):Ghs σ σ'
 | fz {σ σ':St} (k ty sz bs:Nat) (es:List (List Cell)) (hk:σ.ob k=some (.mrow ty sz bs es)) (h:Ghs (σ.frz k ty sz bs es) σ'):Ghs σ σ'
 | ads {σ σ':St} (s K ty sz bs:Nat) (es:List (List Cell)) (hs:σ.sl s=.c (.cap sz bs es)) (h:Ghs (σ.ads s K ty sz bs es) σ'):Ghs σ σ'
 | nz {σ σ':St} (s k t ty sz bs:Nat) (es:List (List Cell)) (hs:σ.sl s=.c (.own k t)) (ht:t=σ.tg k) (hk:σ.ob k=some (.mrow ty sz bs es)) (h0:0 < es.length * sz) (h:Ghs (σ.nz s k ty sz bs es) σ'):Ghs σ σ'
def W (P:Program) (base:Nat):SCode → St → (SEx → St → Prop) → Prop
 | .skip,σ,Q=>Q .normal σ
 | .reg l,σ,Q=>WOps P base l σ (Q .normal)
 | .dreg anc l,σ,Q=>WD P base anc 0 l σ [] (fun σ'=>(∀ s,RealA (σ'.sl s)) → Q .normal σ')
 | .seq x y,σ,Q=>W P base x σ (onSeq (fun σ'=>W P base y σ' Q) Q)
 | .cond c x y,σ,Q=>gok true (σ.ev c) ∧ ∃ t,un (σ.ev c)=.c (.v (.bool t)) ∧ (t=true → W P base x σ Q) ∧ (t=false → W P base y σ Q)
 | .block id x,σ,Q=>W P base x σ (onBlock id Q)
 | .loop x,σ,Q=>∃ (J:Nat → St → Prop) (m:Nat),J m σ ∧ ∀ k σ,J k σ → W P base x σ (onSeq (fun σ'=>∃ k',k' < k ∧ J k' σ') Q)
 | .exit id,σ,Q=>Q (.exit id) σ
 | .ret,σ,Q=>Q .ret σ
 | .frz k,σ,Q=>∃ ty sz bs es,σ.ob k=some (.mrow ty sz bs es) ∧ Q .normal (σ.frz k ty sz bs es)
 | .gh,σ,Q=>∃ σ',Ghs σ σ' ∧ Q .normal σ'
def isFrz:SCode → Bool
 | .frz _=>true
 | .gh=>true
 | _=>false
def okCode (P:Program) (n:Nat):SCode → Code → Bool
 | .skip,c=>match c with
  | .skip=>true
  | _=>false
 | .reg l,c=>match c with
  | .region _ ops false=>okOps P n ops ops.toList l
  | _=>false
 | .dreg anc l,c=>match c with
  | .region _ ops true=>P.follows .mixedOrders && okOps P n ops ops.toList l && okAnc anc ops && okApart anc l
  | _=>false
 | .seq x y,c=>if isFrz x then okCode P n y c else if isFrz y then okCode P n x c else match c with
  | .seq x' y'=>okCode P n x x' && okCode P n y y'
  | _=>false
 | .cond c x y,c'=>match c' with
  | .cond d x' y'=>okA d c && okCode P n x x' && okCode P n y y'
  | _=>false
 | .block id x,c=>match c with
  | .block id' x'=>decide (id'=id) && okCode P n x x'
  | _=>false
 | .loop x,c=>match c with
  | .loop x'=>okCode P n x x'
  | _=>false
 | .exit id,c=>match c with
  | .exit id'=>decide (id'=id)
  | _=>false
 | .ret,c=>match c with
  | .ret=>true
  | _=>false
 | .frz _,_=>false
 | .gh,_=>false
theorem text2 {base:Nat} {ops:Array Oper} {sos:List SO} {Q:Exit → Act → World → Prop} {K:St → Prop} (hok:okOps P n ops ops.toList sos=true) (hK:∀ σ g a w,K σ → Rel I n σ g a w → Q .normal a w) :
  ∀ {l:List SO} {pre:List SO} {σ:St} {g a w},sos=pre ++ l → WOps P base l σ K → Rel I n σ g a w → wpOps P ops Q (List.range' pre.length l.length) a w
 | [],pre,σ,g,a,w,_,h,hR=>by simpa [wpOps] using hK _ _ _ _ h hR
 | so :: l,pre,σ,g,a,w,hs,h,hR=>by
  obtain ⟨e,h1,h2⟩:=h
  rw [List.length_cons,List.range'_succ,wpOps_cons]
  refine one_op hR hok (by rw [hs];simp) h1 fun a' w' g' hR'=>?_
  have hcall:∀ d,so.dst=some d → so.op.isCall=true → RealA e.val:=fun d hd hc=>by
   have:=hR'.slots d
   rw [hd] at this
   simp only [St.ap,upd,if_true] at this
   exact ⟨_,_,_,this⟩
  have:=text2 (pre:=pre ++ [so]) hok hK (by rw [hs];simp) (h2 hcall) hR'
  simpa using this
theorem WD_tr {base:Nat} {anc:List Nat} {K:St → Prop}:∀ {l:List SO} {σ:St} {pre:List SO} {tr0:List TE},WD P base anc pre.length l σ tr0 K →
  ∃ tr σ',Tr P base (pre ++ l) (List.range' pre.length l.length) σ tr σ' ∧ fineW anc (tr0.reverse ++ tr)=true ∧ K σ'
 | [],σ,pre,tr0,h=>⟨[],σ,by simpa using Tr.nil σ,by simpa using h.1,h.2⟩
 | so :: l,σ,pre,tr0,h=>by
  obtain ⟨e,h1,h2⟩:=h
  obtain ⟨tr,σ',h3,h4,h5⟩:=WD_tr (pre:=pre ++ [so]) (by simpa using h2)
  refine ⟨⟨pre.length,wrote e,lkOf base so σ e⟩ :: tr,σ',?_,?_,h5⟩
  ·rw [List.length_cons,List.range'_succ]
   refine .cons (by simp) h1 ?_
   simpa using h3
  ·simpa using h4
theorem apartS_spec {sos:List SO} {x y:TE} {so so':SO} (h1:sos[x.i]? = some so) (h2:sos[y.i]? = some so') (h:apartS so so'=true) :
  (∀ s,so.dst=some s → so'.dst ≠ some s ∧ s ∉ so'.looks) ∧ ∀ s,so'.dst=some s → s ∉ so.looks:=by
 simp only [apartS,Bool.and_eq_true] at h
 constructor
 ·intro s hs
  have:=h.1
  rw [hs] at this
  simpa using this
 ·intro s hs
  have:=h.2
  rw [hs] at this
  simpa using this
theorem fine_pairs {anc:List Nat} {sos:List SO} {base m:Nat} {tr:List TE} (ht:Tr P base sos (List.range m) σ tr σ') (hm:m=sos.length) (hA:okApart anc sos=true) (hf:fineW anc tr=true) :
  tr.Pairwise fun x y=>(anc.getD y.i 0).testBit x.i=true ∨ (anc.getD x.i 0).testBit y.i=true ∨ ApartT sos x y:=by
 have hi:(tr.map (·.i)).Pairwise (· < ·):=by rw [ht.idx];exact List.pairwise_lt_range
 have hlt:∀ x,x ∈ tr → x.i < sos.length:=fun x hx=>by
  have:x.i ∈ tr.map (·.i):=List.mem_map_of_mem hx
  rw [ht.idx] at this
  rw [← hm];simpa using this
 rw [List.pairwise_map] at hi
 refine List.Pairwise.imp_of_mem (fun {x y} hx hy hlt'=>?_) hi
 by_cases ha:(anc.getD y.i 0).testBit x.i=true
 ·exact .inl ha
 by_cases hb:(anc.getD x.i 0).testBit y.i=true
 ·exact .inr (.inl hb)
 have ha':(anc.getD y.i 0).testBit x.i=false:=by simpa using ha
 have hb':(anc.getD x.i 0).testBit y.i=false:=by simpa using hb
 refine .inr (.inr ?_)
 have hx1:=hlt x hx
 have hy1:=hlt y hy
 have hap:apartS sos[x.i] sos[y.i]=true:=by
  simp only [okApart,List.all_eq_true,List.mem_range] at hA
  have:=hA y.i hy1 x.i hlt'
  rw [ha',List.getElem?_eq_getElem hx1,List.getElem?_eq_getElem hy1] at this
  simpa using this
 have hk:kOK x y=true:=by
  simp only [fineW,List.all_eq_true,List.mem_filter] at hf
  by_cases wx:x.wr=[]
  ·by_cases wy:y.wr=[]
   ·simp [kOK,wx,wy]
   ·have:=hf y ⟨hy,by simpa using wy⟩ x hx
    rw [ha',hb'] at this
    have hne:¬ y.i=x.i:=by omega
    simp [hne] at this
    simp only [kOK,Bool.and_eq_true] at this ⊢
    exact ⟨this.2,this.1⟩
  ·have:=hf x ⟨hx,by simpa using wx⟩ y hy
   rw [ha',hb'] at this
   have hne:¬ x.i=y.i:=by omega
   simpa [hne] using this
 simp only [kOK,Bool.and_eq_true,List.all_eq_true] at hk
 refine ⟨fun so so' h1 h2=>?_,fun k hk' hm'=>?_,fun k hk' hm'=>?_⟩
 ·rw [List.getElem?_eq_getElem hx1] at h1
  rw [List.getElem?_eq_getElem hy1] at h2
  cases h1;cases h2
  exact apartS_spec (sos:=sos) (x:=x) (y:=y) (List.getElem?_eq_getElem hx1) (List.getElem?_eq_getElem hy1) hap
 ·have:=hk.1 k hk'
  simp at this
  exact this hm'
 ·have:=hk.2 k hk'
  simp at this
  exact this hm'
theorem frz_soundX {k ty sz bs:Nat} {es:List (List Cell)} (hR:Rel I n σ g a w) (h:σ.ob k=some (.mrow ty sz bs es)):∃ g',Rel I n (σ.frz k ty sz bs es) g' a w ∧ g'.rv=g.rv ∧ Kp g w g' w ∧ ∀ x,x < es.length * sz → g'.st (g.blk k) x:=by
 obtain ⟨arr,c,h1,h2,h3,h4,h5,h6,h7,h8⟩:=hR.obs k _ h
 let g':Gh:=⟨fun b x=>g.st b x ∨ (b=g.blk k ∧ x < es.length * sz),g.blk,g.rv,g.tg,g.lo⟩
 have hkp:Kp g w g' w:=⟨fun ad hs=>⟨.inl hs,rfl⟩,rfl,fun _ _ _ _ _ h=>h⟩
 have hle:g.Le g':=⟨fun _=>.inr ⟨rfl,rfl,rfl⟩⟩
 have hblk:g.blk k < w.heap.size:=(Array.getElem?_eq_some_iff.1 h3).1
 have hact:∀ k' q,Active g' k' q ↔ Active g k' q:=fun k' q=>by cases q <;> exact Iff.rfl
 have hne:∀ k' q,k' ≠ k → σ.ob k'=some q → Active g k' q → g.blk k' ≠ g.blk k:=fun k' q hk hq ha hb=>hk (hR.sep k' k q _ hq h ha trivial hb)
 refine ⟨g',
  {size:=hR.size,tags:=hR.tags,slots:=fun s=>(hR.slots s).mono hkp hle,defs:=hR.defs,obs:=fun k' q hq=>?_,sep:=fun k1 k2 q1 q2 e1 e2 a1 a2 hb=>?_,wok:=fun b x hx=>?_,os:=hR.os,tape:=hR.tape,out:=hR.out,
   grow:=hR.grow,frame:=fun b hb hm=>?_,kp:=hR.kp.trans hkp,los:=hR.los,le:=hR.le.trans hle,loc:=fun k' q hq ha=>?_ },rfl,hkp,fun x hx=>.inr ⟨rfl,hx⟩⟩
 ·simp only [St.frz] at hq
  by_cases hk:k'=k
  ·subst hk
   rw [if_pos rfl] at hq
   cases hq
   have hcell:∀ i j l d,es[i]? = some l → l[j]? = some d → i * sz + j < es.length * sz:=fun i j l d e1 e2=>by
    have hi:=(List.getElem?_eq_some_iff.1 e1).1
    have hj:=(List.getElem?_eq_some_iff.1 e2).1
    rw [h6 l (List.mem_of_getElem? e1)] at hj
    have:(i + 1) * sz ≤ es.length * sz:=Nat.mul_le_mul_right _ hi
    rw [Nat.add_mul] at this
    omega
   have hch:∀ i j,∃ v,∀ l d,es[i]? = some l → l[j]? = some d → arr[i * sz + j]? = some v ∧ RD g w d v:=fun i j=>by
    by_cases hx:∃ l d,es[i]? = some l ∧ l[j]? = some d
    ·obtain ⟨l,d,e1,e2⟩:=hx
     obtain ⟨x,f1,f2⟩:=h7 i j l d e1 e2
     refine ⟨x,fun l' d' e1' e2'=>?_⟩
     rw [e1] at e1';cases e1'
     rw [e2] at e2';cases e2'
     exact ⟨f1,f2⟩
    ·exact ⟨undef,fun l d e1 e2=>absurd ⟨l,d,e1,e2⟩ hx⟩
   refine ⟨?_,fun p m c' he hlt=>?_⟩
   ·rw [show g'.rv k'=g.rv k' from rfl,h1]
    refine .sl sz bs es (some ⟨g.blk k',0,none⟩) c (fun i j=>Classical.choose (hch i j)) (Nat.le_of_eq h2) h5 h6 (fun i j l d e1 e2=>⟨_,rfl,?_,?_⟩) fun i j l d e1 e2=>(Classical.choose_spec (hch i j) l d e1 e2).2.mono hkp
    ·rw [add_blk];exact .inr ⟨rfl,by simpa using hcell i j l d e1 e2⟩
    ·rw [add_blk,cell_blk h3]
     simpa using (Classical.choose_spec (hch i j) l d e1 e2).1
   ·rw [show g'.rv k'=g.rv k' from rfl,h1] at he
    cases he
    refine ⟨rfl,⟨arr,h3,h4⟩,fun x hx=>?_⟩
    rcases hx with hx | hx
    ·exact absurd hx (h8 x)
    ·exact hx.2
  ·rw [if_neg hk] at hq
   refine ObOK.mono hkp hle rfl (fun ha=>⟨rfl,fun x hx=>?_⟩) (hR.obs k' q hq)
   rcases hx with hx | hx
   ·exact hx
   ·exact absurd hx.1 (hne k' q hk hq ha)
 ·have key:∀ k' q,(σ.frz k ty sz bs es).ob k'=some q → Active g' k' q → ∃ q',σ.ob k'=some q' ∧ Active g k' q':=fun k' q e ha=>by
   simp only [St.frz] at e
   by_cases hk:k'=k
   ·subst hk;exact ⟨_,h,trivial⟩
   ·rw [if_neg hk] at e;exact ⟨q,e,(hact k' q).1 ha⟩
  obtain ⟨q1',f1,f2⟩:=key k1 q1 e1 a1
  obtain ⟨q2',f3,f4⟩:=key k2 q2 e2 a2
  exact hR.sep k1 k2 q1' q2' f1 f3 f2 f4 hb
 ·rcases hx with hx | hx
  ·exact hR.wok b x hx
  ·rw [hx.1];exact hblk
 ·have hf:=hR.frame b hb hm
  refine ⟨hf.1,fun x=>⟨fun hx=>?_,fun hx=>.inl ((hf.2 x).2 hx)⟩⟩
  rcases hx with hx | hx
  ·exact (hf.2 x).1 hx
  ·exfalso
   rcases hR.loc k _ h trivial with h' | h'
   ·rw [← hx.1] at h';exact hm h'
   ·rw [← hx.1] at h';omega
 ·simp only [St.frz] at hq
  by_cases hk:k'=k
  ·subst hk;exact hR.loc k' _ h trivial
  ·rw [if_neg hk] at hq;exact hR.loc k' q hq ((hact k' q).1 ha)
theorem frz_sound {k ty sz bs:Nat} {es:List (List Cell)} (hR:Rel I n σ g a w) (h:σ.ob k=some (.mrow ty sz bs es)):∃ g',Rel I n (σ.frz k ty sz bs es) g' a w:=by
 obtain ⟨g',h1,_⟩:=frz_soundX hR h
 exact ⟨g',h1⟩
theorem nz_sound {s k t ty sz bs:Nat} {es:List (List Cell)} (hR:Rel I n σ g a w) (hs:σ.sl s=.c (.own k t)) (ht:t=σ.tg k) (h:σ.ob k=some (.mrow ty sz bs es)) (h0:0 < es.length * sz):∃ g',Rel I n (σ.nz s k ty sz bs es) g' a w:=by
 obtain ⟨g',h1,h2,h3,h4⟩:=frz_soundX hR h
 obtain ⟨arr,c,e1,e2,e3,e5,_⟩:=hR.obs k _ h
 have hv:=hR.slots s
 rw [hs] at hv
 have hy:a.tmps.getD s undef=g.rv k:=((hv (by simp)).2.2 (by rw [hR.tags];exact ht)).1
 have hrow:ObOK g' w k (.row ty sz bs es):=h1.obs k _ (by simp [St.frz])
 have hlo:g'.lo ≤ g.blk k:=by
  rw [h1.kp.lo]
  rcases hR.loc k _ h trivial with h | h
  ·exact hR.los.2 _ h
  ·exact Nat.le_trans hR.los.1 h
 refine ⟨g',{ h1 with slots:=fun s'=>?_,obs:=h1.obs,sep:=h1.sep,loc:=h1.loc,tags:=h1.tags }⟩
 simp only [St.nz,upd]
 split
 ·rename_i hs'
  subst hs'
  rw [hy]
  intro _
  have hrd:=hrow.1
  rw [h2,e1] at hrd
  show RD g' w (.nsl sz bs es) (g.rv k)
  rw [e1]
  subst e2
  cases hrd with
  | sl _ _ _ _ _ vs a1 a2 a3 a4 a5=>
   refine .nsl sz bs es _ ty vs a2 a3 (fun i j l d p1 p2=>?_) hlo (h4 0 h0) ⟨arr,e3,e5⟩ a5
   obtain ⟨ad,e,hh⟩:=a4 i j l d p1 p2
   cases e
   rw [add_blk,Nat.zero_add] at hh
   exact hh
 ·exact h1.slots s'
def SEx.up:SEx → Exit
 | .normal=>.normal
 | .exit id=>.exit id
 | .ret=>.ret
theorem ObOK.key {k K:Nat} {q:Obj} (h:ObOK g w k q) (hkp:Kp g w g' w) (hq:isRow q=true) (hst:∀ b o,g'.st b o ↔ g.st b o) (h1:g'.blk K=g.blk k) (h2:g'.rv K=g.rv k):ObOK g' w K q:=by
 cases q with
 | row ty sz bs es=>
  refine ⟨by rw [h2];exact h.1.mono hkp,fun p m c e hlt=>?_⟩
  rw [h2] at e
  obtain ⟨f1,f2,f3⟩:=h.2 p m c e hlt
  rw [h1]
  exact ⟨f1,f2,fun o ho=>f3 o ((hst _ _).1 ho)⟩
 | mrow ty sz bs es=>
  obtain ⟨arr,c,f1,f2,f3,f4,f5,f6,f7,f8⟩:=h
  refine ⟨arr,c,by rw [h1,h2];exact f1,f2,by rw [h1];exact f3,f4,f5,f6,fun i j l d e1 e2=>?_,fun o ho=>?_⟩
  ·obtain ⟨x,x1,x2⟩:=f7 i j l d e1 e2
   exact ⟨x,x1,x2.mono hkp⟩
  ·rw [h1] at ho;exact f8 o ((hst _ _).1 ho)
 | box ty cs=>cases hq
 | mob one es=>cases hq
 | cut=>cases hq
theorem Active.key {k K:Nat} {q:Obj} (hq:isRow q=true) (h2:g'.rv K=g.rv k):Active g' K q ↔ Active g k q:=by
 cases q with
 | row=>simp only [Active,h2]
 | mrow=>exact Iff.rfl
 | box ty cs=>cases hq
 | cut=>cases hq
 | mob one es=>cases hq
theorem box_anew {B tb i K:Nat} {cs:List Cell} {v0:Value} {ob':Nat → Option Obj} (hR:Rel I n σ g a w) (hB:σ.ob B=some (.box tb cs)) (hK:K ≠ B) (b0:Nat)
  (hv:∀ vs:Array Value,All2 (RC g w) cs vs.toList → w.heap[g.blk B]? = some (.cells vs tb (0,0)) → ∀ v,vs.toList[i]? = some v → v=v0) (hs:∃ p m c,v0=.slice p m c)
  (hob:∀ x,ob' x=if x=B then some (.box tb (cs.set i (.own K (σ.tg K + 1)))) else if x=K then ob' K else ob' x)
  (hold:∀ x q,x ≠ B → x ≠ K → ob' x=some q → σ.ob x=some q)
  (hnew:∀ g':Gh,g'.st=g.st → g'.blk K=b0 → g'.rv K=v0 → Kp g w g' w → ∀ q,ob' K=some q → ObOK g' w K q ∧ (Active g' K q → ∃ k q',k ≠ B ∧ σ.ob k=some q' ∧ Active g k q' ∧ b0=g.blk k ∧ (k ≠ K → ob' k=none))) :
  ∃ g',Rel I n ⟨σ.sl,ob',fun x=>if x=K then σ.tg K + 1 else σ.tg x⟩ g' a w:=by
 let g':Gh:=⟨g.st,fun x=>if x=K then b0 else g.blk x,fun x=>if x=K then v0 else g.rv x,fun x=>if x=K then g.tg K + 1 else g.tg x,g.lo⟩
 have hkp:Kp g w g' w:=⟨fun ad hs=>⟨hs,rfl⟩,rfl,fun _ _ _ _ _ h=>h⟩
 have hle:g.Le g':=⟨fun k=>by
  by_cases hk:k=K
  ·subst hk;left;simp [g']
  ·right;simp [g',hk]⟩
 have gk:g'.blk K=b0 ∧ g'.rv K=v0 ∧ g'.tg K=g.tg K + 1:=by simp [g']
 have go:∀ x,x ≠ K → g'.blk x=g.blk x ∧ g'.rv x=g.rv x ∧ g'.tg x=g.tg x:=fun x hx=>by simp [g',hx]
 have hact:∀ x q,x ≠ K → (Active g' x q ↔ Active g x q):=fun x q hx=>by
  cases q with
  | row=>simp only [Active,(go x hx).2.1]
  | cut=>simp only [Active,(go x hx).2.1]
  | _=>exact Iff.rfl
 have hKn:=hnew g' rfl gk.1 gk.2.1 hkp
 -- where an active object lies: an active object of the old state
 have src:∀ x q,ob' x=some q → Active g' x q → ∃ k q',σ.ob k=some q' ∧ Active g k q' ∧ g'.blk x=g.blk k ∧ (x ≠ K → k=x) ∧ (x=K → k ≠ B ∧ (k ≠ K → ob' k=none)):=fun x q hx ha=>by
  by_cases hxB:x=B
  ·subst hxB
   exact ⟨x,_,hB,trivial,(go x (Ne.symm hK)).1,fun _=>rfl,fun e=>absurd e.symm hK⟩
  ·by_cases hxK:x=K
   ·subst hxK
    obtain ⟨k,q',f1,f2,f3,f4,f5⟩:=(hKn q hx).2 ha
    exact ⟨k,q',f2,f3,by rw [gk.1,f4],fun h=>absurd rfl h,fun _=>⟨f1,f5⟩⟩
   ·exact ⟨x,q,hold x q hxB hxK hx,(hact x q hxK).1 ha,(go x hxK).1,fun _=>rfl,fun h=>absurd h hxK⟩
 refine ⟨g',
  {size:=hR.size,tags:=fun k=>?_,slots:=fun s'=>(hR.slots s').mono hkp hle,defs:=hR.defs,obs:=fun x q hq=>?_,sep:=fun k1 k2 q1 q2 e1 e2 a1 a2 hb=>?_,wok:=hR.wok,os:=hR.os,tape:=hR.tape,out:=hR.out,
   grow:=hR.grow,frame:=hR.frame,kp:=hR.kp.trans hkp,los:=hR.los,le:=hR.le.trans hle,loc:=fun k q hq ha=>?_ }⟩
 ·simp only [g']
  by_cases hk:k=K
  ·subst hk;simp [hR.tags]
  ·simp [hk,hR.tags]
 ·have hq:ob' x=some q:=hq
  by_cases hxB:x=B
  ·subst hxB
   rw [hob x,if_pos rfl] at hq
   cases hq
   obtain ⟨vs,f1,f2,f3⟩:=hR.obs x _ hB
   refine ⟨vs,by rw [(go x (Ne.symm hK)).1];exact f1,All2.mk (by simp [f2.length]) fun j c v hc hv'=>?_,by rw [(go x (Ne.symm hK)).1];exact f3⟩
   rw [List.getElem?_set] at hc
   by_cases hij:i=j
   ·subst hij
    rw [if_pos rfl] at hc
    split at hc
    ·cases hc
     have:=hv vs f2 f1 v hv'
     subst this
     obtain ⟨p,m,c,e⟩:=hs
     exact ⟨by rw [e];rfl,by rw [gk.2.2,hR.tags];exact Nat.le_refl _,fun _=>⟨gk.2.1.symm,p,m,c,e⟩⟩
    ·cases hc
   ·rw [if_neg hij] at hc
    obtain ⟨v',e1,e2⟩:=f2.get j c hc
    rw [e1] at hv';cases hv'
    exact e2.mono hkp hle
  ·by_cases hxK:x=K
   ·subst hxK;exact (hKn q hq).1
   ·exact ObOK.mono hkp hle (go x hxK).2.2 (fun ha=>⟨rfl,fun y hy=>hy⟩) (hR.obs x q (hold x q hxB hxK hq))
 ·obtain ⟨x1,p1,f1,f2,f3,f4,f5⟩:=src k1 q1 e1 a1
  obtain ⟨x2,p2,h1,h2,h3,h4,h5⟩:=src k2 q2 e2 a2
  have hx:x1=x2:=hR.sep x1 x2 p1 p2 f1 h1 f2 h2 (by rw [← f3,← h3];exact hb)
  by_cases hk1:k1=K
  ·by_cases hk2:k2=K
   ·rw [hk1,hk2]
   ·exfalso
    have hx2:=h4 hk2
    obtain ⟨hnB,hno⟩:=f5 hk1
    have:x1 ≠ K:=by rw [hx,hx2];exact hk2
    have:=hno this
    rw [hx,hx2] at this
    rw [show ob' k2=some q2 from e2] at this
    cases this
  ·by_cases hk2:k2=K
   ·exfalso
    have hx1:=f4 hk1
    obtain ⟨hnB,hno⟩:=h5 hk2
    have:x2 ≠ K:=by rw [← hx,hx1];exact hk1
    have:=hno this
    rw [← hx,hx1] at this
    rw [show ob' k1=some q1 from e1] at this
    cases this
   ·rw [← f4 hk1,← h4 hk2];exact hx
 ·obtain ⟨x1,p1,f1,f2,f3,_⟩:=src k q hq ha
  rw [f3]
  exact hR.loc x1 p1 f1 f2
theorem ads_sound {s key ty sz bs:Nat} {es:List (List Cell)} (hR:Rel I n σ g a w) (hs:σ.sl s=.c (.cap sz bs es)):∃ g',Rel I n (σ.ads s key ty sz bs es) g' a w:=by
 have hv:=hR.slots s
 rw [hs] at hv
 have hv:RC g w (.cap sz bs es) (a.tmps.getD s undef):=hv (by simp)
 obtain ⟨hrd,ad,hy⟩:=hv
 let g':Gh:=⟨g.st,g.blk,fun k=>if k=key then a.tmps.getD s undef else g.rv k,fun k=>if k=key then g.tg k + 1 else g.tg k,g.lo⟩
 have hkp:Kp g w g' w:=⟨fun ad hs=>⟨hs,rfl⟩,rfl,fun _ _ _ _ _ h=>h⟩
 have hle:g.Le g':=⟨fun k=>by
  by_cases hk:k=key
  ·left;simp [g',hk]
  ·right;simp [g',hk]⟩
 have hna:¬ Active g' key (.row ty sz bs es):=by
  rintro ⟨a',n',c',h1,h2⟩
  simp only [g',if_true] at h1
  rw [hy] at h1
  cases h1;omega
 have hact:∀ k q,k ≠ key → (Active g' k q ↔ Active g k q):=fun k q hk=>by
  cases q with
  | row=>simp only [Active,g',if_neg hk]
  | cut=>simp only [Active,g',if_neg hk]
  | _=>exact Iff.rfl
 have one:∀ k q,(σ.ads s key ty sz bs es).ob k=some q → (k=key ∧ q=.row ty sz bs es) ∨ (k ≠ key ∧ σ.ob k=some q):=fun k q h=>by
  simp only [St.ads] at h
  by_cases hk:k=key
  ·rw [if_pos hk] at h;cases h;exact .inl ⟨hk,rfl⟩
  ·rw [if_neg hk] at h;exact .inr ⟨hk,h⟩
 refine ⟨g',
  {size:=hR.size,tags:=fun k=>?_,slots:=fun s'=>?_,defs:=hR.defs,obs:=fun k q hq=>?_,sep:=fun k1 k2 q1 q2 e1 e2 a1 a2 hb=>?_,wok:=hR.wok,os:=hR.os,tape:=hR.tape,out:=hR.out,
   grow:=hR.grow,frame:=hR.frame,kp:=hR.kp.trans hkp,los:=hR.los,le:=hR.le.trans hle,loc:=fun k q hq ha=>?_ }⟩
 ·simp only [St.ads,g']
  by_cases hk:k=key
  ·subst hk;simp [hR.tags]
  ·simp [hk,hR.tags]
 ·simp only [St.ads,upd]
  by_cases h:s'=s
  ·rw [if_pos h,h]
   intro _
   refine ⟨by rw [hy];rfl,by simp [g',hR.tags],fun _=>⟨by simp [g'],ad,_,_,hy⟩⟩
  ·rw [if_neg h];exact (hR.slots s').mono hkp hle
 ·rcases one k q hq with ⟨rfl,rfl⟩ | ⟨hk,hq⟩
  ·refine ⟨by simp only [g',if_true];exact hrd.mono hkp,fun a' n' c' h1 h2=>?_⟩
   exact absurd ⟨a',n',c',h1,h2⟩ hna
  ·exact ObOK.mono hkp hle (by simp [g',hk]) (fun _=>⟨rfl,fun _ h=>h⟩) (hR.obs k q hq)
 ·rcases one k1 q1 e1 with ⟨rfl,rfl⟩ | ⟨hk1,e1⟩
  ·exact absurd a1 hna
  ·rcases one k2 q2 e2 with ⟨rfl,rfl⟩ | ⟨hk2,e2⟩
   ·exact absurd a2 hna
   ·exact hR.sep k1 k2 q1 q2 e1 e2 ((hact k1 q1 hk1).1 a1) ((hact k2 q2 hk2).1 a2) hb
 ·rcases one k q hq with ⟨rfl,rfl⟩ | ⟨hk,hq⟩
  ·exact absurd ha hna
  ·exact hR.loc k q hq ((hact k q hk).1 ha)
theorem ghs_sound (hR:Rel I n σ g a w) (h:Ghs σ σ'):∃ g',Rel I n σ' g' a w:=by
 induction h generalizing g with
 | refl=>exact ⟨g,hR⟩
 | @stl σ σ' B tb cs i k t K q hB hc ht hk hq hK h ih=>
  have hkB:k ≠ B:=fun e=>by subst e;rw [hB] at hk;cases hk;cases hq
  obtain ⟨g',hR'⟩:=box_anew (ob':=(σ.stl B tb cs i k K q).ob) (i:=i) (v0:=g.rv k) hR hB hK (g.blk k) (fun vs hvs _ v hv=>by
    obtain ⟨v',e1,e2⟩:=hvs.get i _ hc
    rw [e1] at hv;cases hv
    exact (e2.2.2 (by rw [hR.tags];exact ht)).1)
   (by
    obtain ⟨vs,_,f2,_⟩:=hR.obs B _ hB
    obtain ⟨v',e1,e2⟩:=f2.get i _ hc
    obtain ⟨e3,p,m,c,e4⟩:=e2.2.2 (by rw [hR.tags];exact ht)
    exact ⟨p,m,c,by rw [← e3];exact e4⟩)
   (fun x=>by
    simp only [St.stl]
    split
    ·rfl
    ·split <;> simp_all)
   (fun x p h1 h2 h3=>by
    simp only [St.stl,if_neg h1,if_neg h2] at h3
    split at h3
    ·cases h3
    ·exact h3)
   (fun g' e1 e2 e3 hkp p hp=>by
    simp only [St.stl,if_neg hK,if_true] at hp
    cases hp
    refine ⟨(hR.obs k _ hk).key hkp hq (fun b o=>by rw [e1]) e2 e3,fun ha=>⟨k,q,hkB,hk,(Active.key hq e3).1 ha,rfl,fun hne=>?_⟩⟩
    simp only [St.stl,if_neg hkB,if_neg hne,if_true])
  exact ih hR'
 | fz k ty sz bs es hk h ih=>
  obtain ⟨g',hR'⟩:=frz_sound hR hk
  exact ih hR'
 | nz s k t ty sz bs es hs ht hk h0 h ih=>
  obtain ⟨g',hR'⟩:=nz_sound hR hs ht hk h0
  exact ih hR'
 | ads s K ty sz bs es hs h ih=>
  obtain ⟨g',hR'⟩:=ads_sound (key:=K) (ty:=ty) hR hs
  exact ih hR'
 | @adb σ σ' B tb cs i K ty sz bs es hB hc hK h ih=>
  obtain ⟨vs0,f1,f2,f3⟩:=hR.obs B _ hB
  obtain ⟨v0,e1,hrd,p0,e2⟩:=f2.get i _ hc
  obtain ⟨g',hR'⟩:=box_anew (ob':=(σ.adb B tb cs i K ty sz bs es).ob) (i:=i) (v0:=v0) hR hB hK 0 (fun vs hvs hw v hv=>by
    rw [f1] at hw;cases hw
    rw [e1] at hv;cases hv;rfl)
   ⟨_,_,_,e2⟩
   (fun x=>by
    simp only [St.adb]
    split
    ·rfl
    ·split <;> simp_all)
   (fun x p h1 h2 h3=>by
    simpa only [St.adb,if_neg h1,if_neg h2] using h3)
   (fun g' q1 q2 q3 hkp p hp=>by
    simp only [St.adb,if_neg hK,if_true] at hp
    cases hp
    refine ⟨⟨by rw [q3];exact hrd.mono hkp,fun a' m c he hlt=>?_⟩,?_⟩
    ·rw [q3,e2] at he;cases he;omega
    ·rintro ⟨a',m,c,he,hlt⟩
     rw [q3,e2] at he;cases he;omega)
  exact ih hR'
theorem frz_all {base:Nat} {x:SCode} {Q:SEx → St → Prop} (hR:Rel I n σ g a w) (hf:isFrz x=true) (hW:W P base x σ Q):∃ σ' g',Rel I n σ' g' a w ∧ Q .normal σ':=by
 cases x <;> simp [isFrz] at hf
 ·obtain ⟨ty,sz,bs,es,h1,h2⟩:=hW
  obtain ⟨g',hR'⟩:=frz_sound hR h1
  exact ⟨_,g',hR',h2⟩
 ·obtain ⟨σ',h1,h2⟩:=hW
  obtain ⟨g',hR'⟩:=ghs_sound hR h1
  exact ⟨_,g',hR',h2⟩
theorem W_sound {base:Nat}:∀ (sc:SCode) (c:Code) (σ:St) (Q:SEx → St → Prop) (R:Exit → Act → World → Prop),okCode P n sc c=true → W P base sc σ Q →
  (∀ e σ' g a w,Q e σ' → Rel I n σ' g a w → R e.up a w) → ∀ g a w,Rel I n σ g a w → c.wp P R a w:=by
 intro sc
 induction sc with
 | skip=>
  intro c σ Q R hok hW hQ g a w hR
  cases c <;> simp only [okCode,Bool.false_eq_true] at hok
  exact wp_skip (hQ .normal _ _ _ _ hW hR)
 | reg l=>
  intro c σ Q R hok hW hQ g a w hR
  simp only [okCode] at hok
  split at hok
  ·rename_i ops
   refine wp_region ?_
   have hl:=okOps_len hok
   have:List.range ops.size=List.range' 0 l.length:=by rw [List.range_eq_range'];simp at hl;rw [hl]
   rw [this]
   exact text2 (pre:=[]) hok (fun σ g a w h hR'=>hQ .normal _ _ _ _ h hR') (by simp) hW hR
  ·cases hok
 | dreg anc l=>
  intro c σ Q R hok hW hQ g a w hR
  simp only [okCode] at hok
  split at hok
  ·rename_i ops
   simp only [Bool.and_eq_true] at hok
   obtain ⟨⟨⟨h0,h1⟩,h2⟩,h3⟩:=hok
   obtain ⟨tr,σ',h4,h5,h6⟩:=WD_tr (pre:=[]) (tr0:=[]) hW
   have hl:=okOps_len h1
   simp at hl
   have hrange:List.range' 0 l.length=List.range l.length:=by rw [List.range_eq_range']
   have ht:Tr P base l (List.range l.length) σ tr σ':=by rw [← hrange];simpa using h4
   refine wp_region_any h0 ?_
   refine draw_sound (σ':=σ') h1 (okAnc_spec h2) (fun a w g hR'=>hQ .normal _ _ _ _ (h6 fun s=>⟨_,_,_,hR'.slots s⟩) hR') ops.size _ (List.range l.length) σ tr g a _ (by simp) (by simp [hl]) (fun j=>?_) List.pairwise_lt_range ht
    (fine_pairs ht rfl h3 (by simpa using h5)) (fun j o hj hlj=>?_) (hR.drew _)
   ·simp [Array.getD,hl]
   ·exfalso
    simp [listedB,Array.getD] at hlj
  ·cases hok
 | seq x y ihx ihy=>
  intro c σ Q R hok hW hQ g a w hR
  simp only [okCode] at hok
  split at hok
  ·rename_i hf
   obtain ⟨σ2,g',hR',h2⟩:=frz_all hR hf hW
   exact ihy c _ Q R hok h2 hQ g' a w hR'
  ·split at hok
   ·rename_i hfy
    refine ihx c σ _ R hok hW (fun e σ' g a w h hR'=>?_) g a w hR
    cases e with
    | normal=>
     obtain ⟨σ2,g',hR',h2⟩:=frz_all hR' hfy h
     exact hQ .normal _ _ _ _ h2 hR'
    | exit id=>exact hQ _ _ _ _ _ h hR'
    | ret=>exact hQ _ _ _ _ _ h hR'
   split at hok
   ·rename_i x' y'
    simp only [Bool.and_eq_true] at hok
    refine wp_seq (ihx x' σ _ _ hok.1 hW (fun e σ' g a w h hR'=>?_) g a w hR)
    cases e with
    | normal=>exact ihy y' σ' Q R hok.2 h hQ g a w hR'
    | exit id=>exact hQ _ _ _ _ _ h hR'
    | ret=>exact hQ _ _ _ _ _ h hR'
   ·cases hok
 | cond c' x y ihx ihy=>
  intro c σ Q R hok hW hQ g a w hR
  simp only [okCode] at hok
  split at hok
  ·rename_i d x' y'
   simp only [Bool.and_eq_true] at hok
   obtain ⟨⟨h1,h2⟩,h3⟩:=hok
   obtain ⟨q1,t,q2,q3,q4⟩:=hW
   have hv:=opd hR h1 q1
   rw [q2] at hv
   have hb:=RV2_v hv
   exact wp_cond_split hb (fun ht=>ihx x' σ Q R h2 (q3 ht) hQ g a w hR) (fun ht=>ihy y' σ Q R h3 (q4 ht) hQ g a w hR)
  ·cases hok
 | block id x ih=>
  intro c σ Q R hok hW hQ g a w hR
  simp only [okCode] at hok
  split at hok
  ·rename_i id' x'
   simp only [Bool.and_eq_true,decide_eq_true_eq] at hok
   obtain ⟨rfl,h1⟩:=hok
   refine wp_block (ih x' σ _ _ h1 hW (fun e σ' g a w h hR'=>?_) g a w hR)
   cases e with
   | normal=>exact hQ _ _ _ _ _ h hR'
   | exit id=>
    simp only [onBlock] at h
    simp only [SEx.up,Exit.inBlock]
    split
    ·rename_i hid;rw [if_pos hid] at h;exact hQ .normal _ _ _ _ h hR'
    ·rename_i hid;rw [if_neg hid] at h;exact hQ (.exit id) _ _ _ _ h hR'
   | ret=>exact hQ _ _ _ _ _ h hR'
  ·cases hok
 | loop x ih=>
  intro c σ Q R hok hW hQ g a w hR
  simp only [okCode] at hok
  split at hok
  ·rename_i x'
   obtain ⟨J,m,h0,hr⟩:=hW
   refine wp_loop_ghost (fun k a w=>∃ σ g,J k σ ∧ Rel I n σ g a w) m ⟨σ,g,h0,hR⟩ fun k a w ⟨σ1,g1,hJ,hR1⟩=>?_
   refine ih x' σ1 _ _ hok (hr k σ1 hJ) (fun e σ' g a w h hR'=>?_) g1 a w hR1
   cases e with
   | normal=>
    obtain ⟨k',hk,hJ'⟩:=h
    exact ⟨k',hk,σ',g,hJ',hR'⟩
   | exit id=>exact hQ _ _ _ _ _ h hR'
   | ret=>exact hQ _ _ _ _ _ h hR'
  ·cases hok
 | exit id=>
  intro c σ Q R hok hW hQ g a w hR
  cases c <;> simp only [okCode,Bool.false_eq_true,decide_eq_true_eq] at hok
  subst hok
  exact wp_exit (hQ (.exit _) _ _ _ _ hW hR)
 | ret=>
  intro c σ Q R hok hW hQ g a w hR
  cases c <;> simp only [okCode,Bool.false_eq_true] at hok
  exact wp_ret (hQ .ret _ _ _ _ hW hR)
 | frz k=>
  intro c σ Q R hok hW hQ g a w hR
  simp [okCode] at hok
 | gh=>
  intro c σ Q R hok hW hQ g a w hR
  simp [okCode] at hok
end Go.Abs

namespace Go.Abs
variable {P:Program} {I:Init} {n:Nat} {σ σ':St} {g g':Gh} {a:Act} {w w':World} {o:Oper} {e:Eff}
inductive RR where
 | t (s:Nat)
 | c1 (a:Nat)
 | cn (a m:Nat)
def isV1:AV → Bool
 | .c _=>true
 | .agg _=>true
 | _=>false
def rrEv (σ:St):RR → Option AV
 | .t s=>some (toD2 σ (un (σ.sl s)))
 | .c1 a=>match loadAt σ true 0 (un (σ.sl a)) with
  | some e=>some (toD2 σ e.val)
  | none=>none
 | .cn a m=>match loadAt σ false m (un (σ.sl a)) with
  | some e=>some (toD2 σ e.val)
  | none=>none
def rrGok (σ:St):RR → Prop
 | .t s=>gok true (σ.sl s)
 | .c1 a=>gok true (σ.sl a)
 | .cn a _=>gok true (σ.sl a)
def resL (σ:St):List RR → Option (List AV)
 | []=>some []
 | r :: l=>match rrEv σ r,resL σ l with
  | some x,some y=>if isV1 x then some (x :: y) else none
  | _,_=>none
def resOf (σ:St) (l:List RR):Option AV:=match resL σ l with
 | some [x]=>some x
 | some xs=>some (.tup xs)
 | none=>none
def okR (P:Program):List ResultVar → List RR → Bool
 | [],[]=>true
 | .tmp s :: l,.t s' :: l'=>decide (s=s') && okR P l l'
 | .cell a ty :: l,.c1 a' :: l'=>decide (a=a') && decide (aggT P ty=some false) && okR P l l'
 | .cell a ty :: l,.cn a' m :: l'=>decide (a=a') && decide (aggT P ty=some true) && decide (szT P ty=some m) && okR P l l'
 | _,_=>false
theorem loadVar_at {t:TypeId} {y v:Value} (h:(Instr.loadAt t y).run P w=.ok v w) (hy:∃ ad,y=.pointer (some ad)):(do loadVar t (← asAddr y):Sem Value).run P w=.ok v w:=by
 obtain ⟨ad,rfl⟩:=hy
 simpa [Instr.loadAt,Instr.sureAddr,asAddr] using h
def resM (tmps:Array Value):ResultVar → Sem Value
 | .tmp t=>pure (tmps.getD t undef)
 | .cell a t=>do loadVar t (← asAddr (tmps.getD a undef))
theorem ptr_of {one:Bool} {m:Nat} {x:AV} {y:Value} (hR:Rel I n σ g a w) (hy:RV2 g w x y) (h:loadAt σ one m x=some e):∃ ad,y=.pointer (some ad):=by
 unfold loadAt at h
 split at h
 ·split at h
  ·rename_i htg
   exact ⟨_,(hy (by simp)).2.2 (by rw [hR.tags];exact htg)⟩
  ·cases h
 ·obtain ⟨ad,e,_⟩:=hy (by simp)
  exact ⟨ad,e⟩
 ·split at h
  ·rename_i htg
   exact ⟨_,(hy (by simp)).2.2 (by rw [hR.tags];exact htg)⟩
  ·cases h
 ·obtain ⟨rfl,_⟩:=hy (by simp)
  exact ⟨_,rfl⟩
 ·cases h
theorem rr_sound (hR:Rel I n σ g a w) {r:ResultVar} {r':RR} {l:List ResultVar} {l':List RR} (hok:okR P (r :: l) (r' :: l')=true) (hg:rrGok σ r') {x:AV} (hx:rrEv σ r'=some x) :
  okR P l l'=true ∧ ∃ v,(resM a.tmps r).run P w=.ok v w ∧ RV2 g w x v:=by
 unfold okR at hok
 split at hok
 ·rename_i e;cases e
 ·rename_i e1 e2
  cases e1;cases e2
  simp only [Bool.and_eq_true,decide_eq_true_eq] at hok
  obtain ⟨rfl,h2⟩:=hok
  cases hx
  exact ⟨h2,_,rfl,toD2_spec hR (RV_un (hR.slots _) hg)⟩
 ·rename_i e1 e2
  cases e1;cases e2
  simp only [Bool.and_eq_true,decide_eq_true_eq] at hok
  obtain ⟨⟨rfl,h1⟩,h2⟩:=hok
  simp only [rrEv] at hx
  split at hx
  ·rename_i e el
   cases hx
   have hv:=RV_un (hR.slots _) hg
   obtain ⟨_,_,v,h3,h4⟩:=loadAt_spec hR hv el h1 (by simp)
   exact ⟨h2,v,loadVar_at h3 (ptr_of hR hv el),toD2_spec hR h4⟩
  ·cases hx
 ·rename_i e1 e2
  cases e1;cases e2
  simp only [Bool.and_eq_true,decide_eq_true_eq] at hok
  obtain ⟨⟨⟨rfl,h1⟩,h3⟩,h2⟩:=hok
  simp only [rrEv] at hx
  split at hx
  ·rename_i e el
   cases hx
   have hv:=RV_un (hR.slots _) hg
   obtain ⟨_,_,v,h3,h4⟩:=loadAt_spec hR hv el h1 (by intro _;exact h3)
   exact ⟨h2,v,loadVar_at h3 (ptr_of hR hv el),toD2_spec hR h4⟩
  ·cases hx
 ·cases hok
theorem resL_sound (hR:Rel I n σ g a w):∀ {l:List ResultVar} {l':List RR},okR P l l'=true → (∀ r,r ∈ l' → rrGok σ r) → ∀ {xs},resL σ l'=some xs →
  ∃ vs,(l.mapM (resM a.tmps)).run P w=.ok vs w ∧ All2 (RV1 g w) xs vs
 | [],[],_,_,xs,h=>by cases h;exact ⟨[],rfl,trivial⟩
 | r :: l,r' :: l',hok,hg,xs,h=>by
  simp only [resL] at h
  split at h
  ·rename_i x y ex ey
   split at h
   ·rename_i hv1
    cases h
    obtain ⟨hok',v,h1,h2⟩:=rr_sound hR hok (hg r' (by simp)) ex
    obtain ⟨vs,h3,h4⟩:=resL_sound hR hok' (fun q hq=>hg q (by simp [hq])) ey
    refine ⟨v :: vs,by simp [h1,h3],?_,h4⟩
    cases x <;> simp [isV1] at hv1
    ·exact h2
    ·exact h2
   ·cases h
  ·cases h
 | [],_ :: _,h,_,_,_=>by simp [okR] at h
 | _ :: _,[],h,_,_,_=>by simp [okR] at h
def slotsOf (args:List AV):Nat → AV:=fun s=>args.getD s (.c .junk)
def obsOf (ins:Objs):Nat → Option Obj:=fun k=>(ins.lookup k).map (·.2)
structure EndOK (ins:Objs) (rs:List RR) (res:AV) (outs:Objs) (σ:St):Prop where
 gk:∀ r,r ∈ rs → rrGok σ r
 res:resOf σ rs=some res
 outs:∀ k t q,outs.lookup k=some (t,q) → σ.ob k=some q ∧ σ.tg k=t ∧ ∃ q',ins.lookup k=some (t,q')
def okFn (P:Program) (f:Nat) (n:Nat) (sc:SCode) (rs:List RR) (m:Nat):Bool:=match P.funcs[f]? with
 | some fn=>match fn.body with
  | some c => decide (fn.ntmps = n) && decide (m ≤ n) && okCode P n sc c && okR P fn.results.toList rs && !(fn.name == "runtime.NumGoroutine")
  | none=>false
 | none=>false
def onEnd (ins:Objs) (rs:List RR) (res:AV) (outs:Objs):SEx → St → Prop
 | .normal,σ=>EndOK ins rs res outs σ
 | .ret,σ=>EndOK ins rs res outs σ
 | .exit _,_=>False
theorem one_res {xs:List AV} {us:List Value} {res:AV} (hr:(match some xs with
  | some [x]=>some x
  | some xs=>some (.tup xs)
  | none=>none)=some res) (h:All2 (RV1 g w) xs us):∃ v,(if h:us.toArray.size=1 then us.toArray[0] else Value.tuple us.toArray)=v ∧ RV2 g w res v:=by
 match xs,us,hr,h with
 | [x],[u],hr,h=>
  cases hr
  refine ⟨u,by simp,?_⟩
  have:=h.1
  cases res with
  | c x=>exact this
  | agg x=>exact this
  | tup x=>exact this.elim
  | gd b x=>exact this.elim
 | [],[],hr,h=>cases hr;exact ⟨.tuple #[],rfl,_,rfl,trivial⟩
 | x :: y :: xs,u :: u' :: us,hr,h=>cases hr;exact ⟨.tuple (u :: u' :: us).toArray,by simp,_,rfl,by simpa using h⟩
 | [],_ :: _,_,h=>exact h.elim
 | [_],[],_,h=>exact h.elim
 | [_],_ :: _ :: _,_,h=>exact h.2.elim
 | _ :: _ :: _,[],_,h=>exact h.elim
 | _ :: _ :: _,[_],_,h=>exact h.2.elim
theorem spec_of {f m base:Nat} {args:List AV} {ins outs:Objs} {res:AV} {sc:SCode} {rs:List RR} (hok:okFn P f n sc rs m=true) (hm:args.length=m)
  (hW:∀ T:Nat → Nat,(∀ k t q,ins.lookup k=some (t,q) → T k=t) → (∀ x,x ∈ args → Real x) → W P base sc ⟨slotsOf args,obsOf ins,T⟩ (onEnd ins rs res outs)):Spec P f args ins res outs:=by
 unfold okFn at hok
 split at hok
 case h_2=>cases hok
 rename_i fn hf
 split at hok
 case h_2=>cases hok
 rename_i c hb
 simp only [Bool.and_eq_true,decide_eq_true_eq,Bool.not_eq_true'] at hok
 obtain ⟨⟨⟨⟨hn,hmn⟩,hcode⟩,hres⟩,hname⟩:=hok
 refine ⟨fun args w=>?_,fun g w vs hwok hlo hargs hins=>?_⟩
 ·have hname : ¬ fn.name = "runtime.NumGoroutine" := by simpa using hname
  simp [callFunc,hf,hname,hb]
 ·refine calls_of_wp hf hb ?_
  let J:Init:=⟨g,w,mineOf g ins,[]⟩
  have hlen:vs.size=m:=by rw [← hm];simpa using hargs.length.symm
  let a0:Act:={ tmps:=vs ++ Array.replicate (fn.ntmps - vs.size) undef,defers:=[] }
  have hobs:∀ k q,obsOf ins k=some q → ∃ t,ins.lookup k=some (t,q):=fun k q h=>by
   obtain ⟨⟨t,q'⟩,h1,rfl⟩:=Option.map_eq_some_iff.1 h
   exact ⟨t,h1⟩
  have hR0:Rel J n ⟨slotsOf args,obsOf ins,g.tg⟩ g a0 w:=
   {size:=by simp only [a0,Array.size_append,Array.size_replicate];omega
    tags:=fun _=>rfl
    slots:=fun s=>by
     simp only [slotsOf]
     by_cases hs:s < args.length
     ·have hget:args[s]? = some args[s]:=List.getElem?_eq_getElem hs
      obtain ⟨v,hv,hrv⟩:=hargs.get s _ hget
      have e1:args.getD s (.c .junk)=args[s]:=by simp [hs]
      have e2:a0.tmps.getD s undef=v:=by
       have hsv:s < vs.size:=by omega
       have hv':vs[s]? = some v:=by simpa using hv
       simp only [a0,Array.getD_eq_getD_getElem?]
       rw [Array.getElem?_append_left hsv,hv'];rfl
      rw [e1,e2]
      exact RV_of2 hrv
     ·have e1:args.getD s (.c .junk)=.c .junk:=by simp [hs]
      rw [e1]
      exact fun h=>absurd rfl h
    defs:=rfl
    obs:=fun k q h=>by
     obtain ⟨t,ht⟩:=hobs k q h
     exact (hins.ok k t q ht).2
    sep:=fun k k' q q' h h' ha ha' hbb=>by
     obtain ⟨t,ht⟩:=hobs k q h
     obtain ⟨t',ht'⟩:=hobs k' q' h'
     exact hins.sep k k' t t' q q' ht ht' ha ha' hbb
    wok:=hwok,os:=rfl,tape:=rfl,out:=rfl,grow:=Nat.le_refl _
    frame:=fun _ _ _=>⟨rfl,fun _=>Iff.rfl⟩
    kp:=Kp.refl g w,los:=hlo,le:=Gh.Le.refl g
    loc:=fun k q h ha=>by
     obtain ⟨t,ht⟩:=hobs k q h
     exact .inl ⟨k,t,q,ht,ha,rfl⟩ }
  have hdone:∀ σ' g' a w',EndOK ins rs res outs σ' → Rel J n σ' g' a w' → a.defers=[] ∧ ∃ v,(results fn a.tmps).run P w'=.ok v w' ∧ ∃ v' g'',Ending.returned v=.returned v' ∧ Post g w ins g'' w' res v' outs:=by
   intro σ' g' a w' hE hR'
   obtain ⟨hgk,hr,ho⟩:=hE
   refine ⟨hR'.defs,?_⟩
   unfold resOf at hr
   have hpost:∀ v,RV2 g' w' res v → Post g w ins g' w' res v outs:=fun v hv=>
    {res:=hv
     obs:=⟨fun k t q h=>⟨(hR'.tags k).trans (ho k t q h).2.1,hR'.obs k q (ho k t q h).1⟩,fun k k' t t' q q' h h' ha ha' hbb=>hR'.sep k k' q q' (ho k t q h).1 (ho k' t' q' h').1 ha ha' hbb⟩
     kp:=hR'.kp,wok:=hR'.wok,os:=hR'.os,tape:=hR'.tape,out:=hR'.out,grow:=hR'.grow,frame:=hR'.frame
     loc:=fun k t q h ha=>hR'.loc k q (ho k t q h).1 ha
     box:=fun k t hk _ ⟨q,hq⟩=>by
      have h1:=(ho k t q hq).2.1
      rcases hR'.le.le k with h | h
      ·have:=hR'.tags k
       have hk':J.g0.tg k=t:=hk
       omega
      ·exact h.2 }
   cases hL:resL σ' rs with
   | none=>rw [hL] at hr;cases hr
   | some xs=>
    rw [hL] at hr
    obtain ⟨us,h1,h2⟩:=resL_sound hR' hres hgk hL
    have hrun:(fn.results.mapM (resM a.tmps)).run P w'=.ok us.toArray w':=by
     rw [← Array.toArray_toList (xs:=fn.results),List.mapM_toArray]
     simp [h1]
    have hrun2:∀ v,(if h:us.toArray.size=1 then us.toArray[0] else Value.tuple us.toArray)=v → (results fn a.tmps).run P w'=.ok v w':=fun v hv=>by
     have:results fn a.tmps=(do
      let vs ← fn.results.mapM (resM a.tmps)
      pure (if h:vs.size=1 then vs[0] else .tuple vs)):=by
       unfold results
       congr 1
     rw [this]
     simp only [Sem.run_bind,hrun]
     rw [← hv];rfl
    obtain ⟨v,hv1,hv2⟩:=one_res hr h2
    exact ⟨v,hrun2 v hv1,v,g',rfl,hpost v hv2⟩
  refine W_sound (base:=base) sc c _ _ _ hcode (hW g.tg (fun k t q h=>(hins.ok k t q h).1) fun x hx=>by
   obtain ⟨i,hi⟩:=List.mem_iff_getElem?.1 hx
   obtain ⟨v,_,hv⟩:=hargs.get i x hi
   exact ⟨g,w,v,hv⟩) (fun e σ' g' a w' hq hR'=>?_) g a0 w hR0
  cases e with
  | normal=>exact hdone σ' g' a w' hq hR'
  | ret=>exact hdone σ' g' a w' hq hR'
  | exit id=>exact hq.elim
end Go.Abs
