/- THIS TEXT TELLS SOME FUNCTIONS OF THE PROGRAM IN THE CALCULUS, PROVES BY THE KERNEL THAT WHAT IS TOLD IS THE LOADED CODE, AND PROVES WHAT THEY COMPUTE: for every argument that is told; the conditions stand in each theorem. -/
import Derived.KernelRfl
import Derived.Test.YtfgjannlepahgaaGreatProg
import Derived.Test.YtfgjannlepahgaaGreatDeM3
set_option linter.unusedVariables false
set_option linter.unusedSimpArgs false
namespace Go.Abs
open Go.Proofs
def badX (k:Int) (a:A):Bool:=a.rc && (decide (0 < a.dom.length) || decide (k ≤ a.sort))
def idxR (b:B) (k:Int):List A → Nat → Bool
 | [],_=>true
 | a :: l,i=>(a.right b i && !badX k a) && idxR b k l (i + 1)
theorem idxR_eq (b:B) (k:Int):∀ (l:List A) (i:Nat),idxR b k l i=(rowA b l i && !(l.any (badX k)))
 | [],_=>rfl
 | a :: l,i=>by
  rw [idxR,idxR_eq b k l (i + 1),rowA,List.any_cons]
  cases a.right b i <;> cases badX k a <;> simp
theorem badIdx_eq (s:S) (k:Int) (l:List A):l.any (badIdx s k)=(l.any (badX k) || (s.dec && l.any A.rc)):=by
 induction l with
 | nil=>simp
 | cons a l ih=>
  rw [List.any_cons,List.any_cons,List.any_cons,ih]
  simp only [badIdx,badX]
  cases a.rc <;> cases s.dec <;> cases (decide (0 < a.dom.length) || decide (k ≤ a.sort)) <;> simp
theorem sright_eq (b:B) (k:Nat) (s:S):s.right b k=(!(decide (12 < s.idx.length) || !lvl s.level) && idxR b k s.idx 0 && !((s.dec && (s.idx.any A.rc || !s.decType.inn s.idx.length)) || (!s.dec && !s.decType.none))):=by
 simp only [S.right,rowOk,idxR_eq,badIdx_eq,maybeIn]
 by_cases h:s.idx.length ≤ 12
 ·have h':¬ 12 < s.idx.length:=by omega
  simp only [h,h',decide_true,decide_false,Bool.true_and,Bool.false_or,Bool.not_not]
  cases s.dec <;> cases rowA b s.idx 0 <;> cases lvl s.level <;> cases s.idx.any (badX k) <;> cases s.idx.any A.rc <;> cases s.decType.inn s.idx.length <;> cases s.decType.none <;> simp
 ·have h':12 < s.idx.length:=by omega
  simp [h,h']
structure FS2 (b:B) (k:Nat) (s:S) (σ:St):Prop where
 s1:σ.sl 1=.c (.ref 1101001 (σ.tg 1101001) 0)
 o1:σ.ob 1101001=some (.box 68 b.cells)
 s3:σ.sl 3=.c (.v (.int .i64 k))
 s4:σ.sl 4=.c (.ref 1101004 (σ.tg 1101004) 0)
 o4:σ.ob 1101004=some (.box 104 s.cells)
def J1101a (b:B) (k:Nat) (s:S) (m:Nat) (σ:St):Prop:=∃ (j:Nat) (r:Bool),j + m=s.idx.length ∧ idxR b k (s.idx.drop j) j=idxR b k s.idx 0 ∧ (r || (s.idx.drop j).any A.rc)=s.idx.any A.rc ∧ FS2 b k s σ ∧ σ.sl 5=.c (.v (.bool r)) ∧ σ.sl 6=.c (.v (.int .i64 j))
theorem loop1101a {σ:St} {Q:SEx → St → Prop} (b:B) (k:Nat) (s:S) (hl:s.idx.length ≤ 12) (ho:∀ a,a ∈ s.idx → a.Ok) (H:FS2 b k s σ) (s5:σ.sl 5=.c (.v (.bool false))) (s6:σ.sl 6=.c (.v (.int .i64 (0:Nat))))
  (hR:∀ σ',idxR b k s.idx 0=false → σ'.sl 2=bb false → Q .ret σ') (hQ:∀ σ',idxR b k s.idx 0=true → FS2 b k s σ' → σ'.sl 5=.c (.v (.bool (s.idx.any A.rc))) → Q .normal σ'):W Tryz.prog 1101000 (.loop c1101b0) σ (onBlock 2 Q):=by
 refine W_loop (J1101a b k s) s.idx.length ⟨0,false,by simp,by simp,by simp,H,s5,s6⟩ ?_
 clear H s5 s6 σ
 rintro m σ ⟨j,r,hm,hp,hr,⟨s1,o1,s3,s4,o4⟩,s5,s6⟩
 simp only [S.cells] at o4
 simp only [B.cells] at o1
 unfold c1101b0
 by_cases hj:j < s.idx.length
 ·have w1:=wrap_succ (i:=j) (by omega)
  obtain ⟨a,ha1⟩:=at_of hj
  obtain ⟨_,ha2⟩:=getE ha1
  rw [drop_at ha1,idxR] at hp
  rw [drop_at ha1,List.any_cons] at hr
  simp [s1,o1,s3,s4,o4,s5,s6,hj]
  refine W_dregA ?_
  simp [s1,o1,s3,s4,o4,s5,s6,hj,ha2,A.cells]
  refine CallA.fn (fn1141 b a j (by omega) (ho a (List.mem_of_getElem? ha1))) (by simp [bm,am,ib,A.cells,B.cells]) (by simp) rfl ?_
  have fF:idxR b k s.idx 0=false → ∀ σ',σ'.sl 2=bb false → Q .ret σ':=fun h σ' h2=>hR σ' h h2
  have fN:∀ (v:Bool) σ',(v || (s.idx.drop (j + 1)).any A.rc)=s.idx.any A.rc → idxR b k (s.idx.drop (j + 1)) (j + 1)=idxR b k s.idx 0 → FS2 b k s σ' → σ'.sl 5=.c (.v (.bool v)) → σ'.sl 6=.c (.v (.int .i64 ((j + 1:Nat):Int))) → ∃ m',m' < m ∧ J1101a b k s m' σ':=fun v σ' h1 h2 H h5 h6=>⟨m - 1,by omega,j + 1,v,by omega,h2,h1,H,h5,h6⟩
  cases hin:a.right b j with
  | false=>
   rw [hin] at hp
   cases hrc:a.rc with
   | false=>
    simp [s1,o1,s3,s4,o4,s5,s6,hj,ha2,A.cells,bb,hrc]
    refine realC_n ?_
    simp
    exact hR _ (by simpa using hp.symm) (by simp [bb])
   | true=>
    simp [s1,o1,s3,s4,o4,s5,s6,hj,ha2,A.cells,bb,hrc]
    refine realC_n ?_
    simp
    exact hR _ (by simpa using hp.symm) (by simp [bb])
  | true=>
   rw [hin,Bool.true_and] at hp
   cases hrc:a.rc with
   | false=>
    have hb:badX k a=false:=by simp [badX,hrc]
    rw [hb] at hp
    rw [hrc] at hr
    simp [s1,o1,s3,s4,o4,s5,s6,hj,ha2,A.cells,bb,hrc]
    refine realC_n ?_
    cases r with
    | false=>
     simp [s1,o1,s3,s4,o4,s5,s6,hj,ha2,A.cells,hrc,w1]
     exact fN false _ (by simpa using hr) (by simpa using hp) ⟨by simp [s1],by simp [o1,B.cells],by simp [s3],by simp [s4],by simp [o4,S.cells]⟩ (by simp) (by simp)
    | true=>
     simp [s1,o1,s3,s4,o4,s5,s6,hj,ha2,A.cells,hrc,w1]
     exact fN true _ (by simpa using hr) (by simpa using hp) ⟨by simp [s1],by simp [o1,B.cells],by simp [s3],by simp [s4],by simp [o4,S.cells]⟩ (by simp) (by simp)
   | true=>
    rw [hrc] at hr
    by_cases c1:0 < a.dom.length
    ·have c1':(0:Int) < a.dom.length:=by omega
     have hb:badX k a=true:=by simp [badX,hrc,c1]
     rw [hb] at hp
     simp [s1,o1,s3,s4,o4,s5,s6,hj,ha2,A.cells,bb,hrc,c1,c1']
     refine realC_n ?_
     simp
     exact hR _ (by simpa using hp.symm) (by simp [bb])
    ·have c1':¬ (0:Int) < a.dom.length:=by omega
     by_cases c2:(k:Int) ≤ a.sort
     ·have hb:badX k a=true:=by simp [badX,hrc,c2]
      rw [hb] at hp
      simp [s1,o1,s3,s4,o4,s5,s6,hj,ha2,A.cells,bb,hrc,c1,c1',c2]
      refine realC_n ?_
      simp
      exact hR _ (by simpa using hp.symm) (by simp [bb])
     ·have hb:badX k a=false:=by simp [badX,c1,c2]
      rw [hb] at hp
      simp [s1,o1,s3,s4,o4,s5,s6,hj,ha2,A.cells,bb,hrc,c1,c1',c2]
      refine realC_n ?_
      cases r with
      | false=>
       simp [s1,o1,s3,s4,o4,s5,s6,hj,ha2,A.cells,hrc,w1]
       exact fN true _ (by simpa using hr) (by simpa using hp) ⟨by simp [s1],by simp [o1,B.cells],by simp [s3],by simp [s4],by simp [o4,S.cells]⟩ (by simp) (by simp)
      | true=>
       simp [s1,o1,s3,s4,o4,s5,s6,hj,ha2,A.cells,hrc,w1]
       exact fN true _ (by simpa using hr) (by simpa using hp) ⟨by simp [s1],by simp [o1,B.cells],by simp [s3],by simp [s4],by simp [o4,S.cells]⟩ (by simp) (by simp)
 ·have:j=s.idx.length:=by omega
  subst this
  simp [idxR] at hp
  simp at hr
  subst hr
  simp [s4,o4,s6]
  exact hQ _ hp ⟨by simp [s1],by simp [o1,B.cells],by simp [s3],by simp [s4],by simp [o4,S.cells]⟩ (by simp [s5])
def J1101b (b:B) (m:Nat) (σ:St):Prop:=∃ j:Nat,j + m=b.sorts.length ∧ sortsOk b (b.sorts.drop j) j=sortsOk b b.sorts 0 ∧ σ.sl 1=.c (.ref 1101001 (σ.tg 1101001) 0) ∧ σ.ob 1101001=some (.box 68 b.cells) ∧ σ.sl 3=.c (.v (.int .i64 j))
theorem lvl_btw (n:Int):btw n 0 6=lvl n:=rfl
theorem loop1101b {σ:St} {Q:SEx → St → Prop} (b:B) (hl:b.sorts.length ≤ 4) (ho:∀ s,s ∈ b.sorts → s.Ok) (s1:σ.sl 1=.c (.ref 1101001 (σ.tg 1101001) 0)) (o1:σ.ob 1101001=some (.box 68 b.cells)) (s3:σ.sl 3=.c (.v (.int .i64 (0:Nat))))
  (hR:∀ σ',sortsOk b b.sorts 0=false → σ'.sl 2=bb false → Q .ret σ') (hQ:∀ σ',sortsOk b b.sorts 0=true → σ'.sl 1=.c (.ref 1101001 (σ'.tg 1101001) 0) → σ'.ob 1101001=some (.box 68 b.cells) → Q .normal σ'):W Tryz.prog 1101000 (.loop c1101b1) σ (onBlock 0 Q):=by
 refine W_loop (J1101b b) b.sorts.length ⟨0,by simp,by simp,s1,o1,s3⟩ ?_
 clear s1 o1 s3 σ
 rintro m σ ⟨j,hm,hp,s1,o1,s3⟩
 simp only [B.cells] at o1
 unfold c1101b1
 by_cases hj:j < b.sorts.length
 ·have w1:=wrap_succ (i:=j) (by omega)
  obtain ⟨s,hs1⟩:=at_of hj
  obtain ⟨_,hs2⟩:=getE hs1
  have hO:=ho s (List.mem_of_getElem? hs1)
  rw [drop_at hs1,sortsOk,sright_eq] at hp
  simp [s1,o1,s3,hj,hs2,S.cells]
  refine GCall.fn (fun _=>fn1102 s.level 0 6) (by simp [ib]) (by simp) rfl fun _=>?_
  rw [lvl_btw]
  by_cases c1:12 < s.idx.length
  ·have c1':(12:Int) < s.idx.length:=by omega
   simp [bb,c1,c1']
   exact hR _ (by simpa [c1] using hp.symm) (by simp [bb])
  ·have c1':¬ (12:Int) < s.idx.length:=by omega
   cases hv:lvl s.level with
   | false=>
    rw [hv] at hp
    simp [bb,c1,c1']
    exact hR _ (by simpa [c1] using hp.symm) (by simp [bb])
   | true=>
    rw [hv] at hp
    have e0:(!(decide (12 < s.idx.length) || !true))=true:=by simp;omega
    rw [e0,Bool.true_and] at hp
    simp [bb,c1,c1']
    refine loop1101a b j s (by omega) hO.idx ⟨by simp [s1],by simp [o1,B.cells],by simp [s3],by simp,by simp [S.cells]⟩ (by simp) (by simp) (fun σ' e q2=>?_) fun σ' e H q5=>?_
    ·simp
     rw [e] at hp
     exact hR _ (by simpa using hp.symm) q2
    rw [e,Bool.true_and] at hp
    obtain ⟨q1,p1,q3,q4,p4⟩:=H
    simp only [S.cells] at p4
    simp only [B.cells] at p1
    have fN:∀ σ',sortsOk b (b.sorts.drop (j + 1)) (j + 1)=sortsOk b b.sorts 0 → σ'.sl 1=.c (.ref 1101001 (σ'.tg 1101001) 0) → σ'.ob 1101001=some (.box 68 b.cells) → σ'.sl 3=.c (.v (.int .i64 ((j + 1:Nat):Int))) → ∃ m',m' < m ∧ J1101b b m' σ':=fun σ' h1 h2 h3 h4=>⟨m - 1,by omega,j + 1,by omega,h1,h2,h3,h4⟩
    have f142:=fn1142 s.decType s.idx.length hO.dec.1
    have f143:=fn1143 s.decType
    cases hd:s.dec with
    | true=>
     rw [hd] at hp
     cases hr:s.idx.any A.rc with
     | true=>
      rw [hr] at hp q5
      simp [q1,p1,q3,q4,p4,q5,hd]
      refine GCall.fn (res:=bb true) (fun h=>by cases h) rfl (by simp) rfl fun _=>?_
      simp [bb,q4,p4,hd]
      refine GCall.fn (res:=bb true) (fun h=>by cases h) rfl (by simp) rfl fun _=>?_
      simp [bb]
      exact hR _ (by simpa using hp.symm) (by simp [bb])
     | false=>
      rw [hr] at hp q5
      simp [q1,p1,q3,q4,p4,q5,hd]
      refine GCall.fn (fun _=>f142) (by simp [tm,ib,cells_eq]) (by simp) rfl fun _=>?_
      cases hi:s.decType.inn s.idx.length with
      | false=>
       rw [hi] at hp
       simp [bb,q4,p4,hd]
       refine GCall.fn (res:=bb true) (fun h=>by cases h) rfl (by simp) rfl fun _=>?_
       simp [bb]
       exact hR _ (by simpa using hp.symm) (by simp [bb])
      | true=>
       rw [hi] at hp
       simp [bb,q4,p4,hd]
       refine GCall.fn (res:=bb true) (fun h=>by cases h) rfl (by simp) rfl fun _=>?_
       simp [bb,q3,w1]
       exact fN _ (by simpa using hp) (by simp [q1]) (by simp [p1,B.cells]) (by simp)
    | false=>
     rw [hd] at hp
     simp [q1,p1,q3,q4,p4,q5,hd]
     refine GCall.fn (res:=bb true) (fun h=>by cases h) rfl (by simp) rfl fun _=>?_
     simp [bb,q4,p4,hd]
     refine GCall.fn (fun _=>f143) (by simp [tm,cells_eq]) (by simp) rfl fun _=>?_
     cases hi:s.decType.none with
     | false=>
      rw [hi] at hp
      simp [bb]
      exact hR _ (by simpa using hp.symm) (by simp [bb])
     | true=>
      rw [hi] at hp
      simp [bb,q3,w1]
      exact fN _ (by simpa using hp) (by simp [q1]) (by simp [p1,B.cells]) (by simp)
 ·have:j=b.sorts.length:=by omega
  subst this
  simp [sortsOk] at hp
  simp [s1,o1,s3]
  exact hQ _ hp (by simp [s1]) (by simp [o1,B.cells])
def J1101c (b:B) (m:Nat) (σ:St):Prop:=∃ j:Nat,j + m=b.cons.length ∧ (b.cons.drop j).all (K.right b)=b.cons.all (K.right b) ∧ σ.sl 1=.c (.ref 1101001 (σ.tg 1101001) 0) ∧ σ.ob 1101001=some (.box 68 b.cells) ∧ σ.sl 7=.c (.v (.int .i64 j))
theorem loop1101c {σ:St} {Q:SEx → St → Prop} (b:B) (hl:b.cons.length ≤ 8) (ho:∀ s,s ∈ b.cons → s.Ok) (s1:σ.sl 1=.c (.ref 1101001 (σ.tg 1101001) 0)) (o1:σ.ob 1101001=some (.box 68 b.cells)) (s7:σ.sl 7=.c (.v (.int .i64 (0:Nat))))
  (hR:∀ σ',b.cons.all (K.right b)=false → σ'.sl 2=bb false → Q .ret σ') (hQ:∀ σ',b.cons.all (K.right b)=true → Q .normal σ'):W Tryz.prog 1101000 (.loop c1101b2) σ (onBlock 4 Q):=by
 refine W_loop (J1101c b) b.cons.length ⟨0,by simp,by simp,s1,o1,s7⟩ ?_
 clear s1 o1 s7 σ
 rintro m σ ⟨j,hm,hp,s1,o1,s7⟩
 simp only [B.cells] at o1
 unfold c1101b2
 by_cases hj:j < b.cons.length
 ·have w1:=wrap_succ (i:=j) (by omega)
  obtain ⟨c,hc1⟩:=at_of hj
  obtain ⟨_,hc2⟩:=getE hc1
  rw [drop_at hc1,List.all_cons] at hp
  simp [s1,o1,s7,hj]
  refine W_dregA ?_
  simp [s1,o1,s7,hj,hc2,K.cells]
  refine CallA.fn (fn1144 b c (ho c (List.mem_of_getElem? hc1))) (by simp [bm,km,K.cells,B.cells]) (by simp) rfl ?_
  cases hin:c.right b with
  | false=>
   rw [hin] at hp
   simp [bb]
   refine realC_n ?_
   simp
   exact hR _ (by simpa using hp.symm) (by simp [bb])
  | true=>
   rw [hin] at hp
   simp [bb]
   refine realC_n ?_
   simp [s7,w1]
   exact ⟨m - 1,by omega,j + 1,by omega,by simpa using hp,by simp [s1],by simp [o1,B.cells],by simp⟩
 ·have:j=b.cons.length:=by omega
  subst this
  simp at hp
  simp [s1,o1,s7]
  exact hQ _ (by simpa using hp)
theorem fn1101 (b:B) (hO:b.Ok):Fn Tryz.prog 101 [bm b] (bb b.shapeB):=by
 refine fn_of (base:=1101000) ok1101 rfl fun σ h0 hr=>?_
 have s0:σ.sl 0=bm b:=h0 0
 simp only [bm,B.cells] at s0
 clear h0 hr
 unfold c1101
 simp [s0]
 refine ECall.fn (fn1102 b.sorts.length 1 4) (by simp [ib]) (by simp) rfl fun _=>?_
 have f102:=fn1102 b.elim 0 6
 by_cases c1:1 ≤ b.sorts.length ∧ b.sorts.length ≤ 4
 ·have e1:btw (b.sorts.length:Int) 1 4=true:=by simp [btw];omega
  by_cases c2:8 < b.cons.length
  ·have c2':(8:Int) < b.cons.length:=by omega
   simp [bb,e1,c2,c2']
   refine GCall.fn (res:=bb true) (fun h=>by cases h) rfl (by simp) rfl fun _=>?_
   simp [bb,r1101,B.shapeB,c2]
  ·have c2':¬ (8:Int) < b.cons.length:=by omega
   simp [bb,e1,c2,c2']
   refine GCall.fn (fun _=>f102) (by simp [ib]) (by simp) rfl fun _=>?_
   rw [lvl_btw]
   cases hv:lvl b.elim with
   | false=>simp [bb,r1101,B.shapeB,hv]
   | true=>
    have e:b.shapeB=(sortsOk b b.sorts 0 && b.cons.all (K.right b)):=by
     have:(!(decide (b.sorts.length < 1) || decide (4 < b.sorts.length) || decide (8 < b.cons.length) || !lvl b.elim))=true:=by rw [decide_eq_false (show ¬ b.sorts.length < 1 by omega),decide_eq_false (show ¬ 4 < b.sorts.length by omega),decide_eq_false c2,hv];rfl
     rw [B.shapeB,this,Bool.true_and]
    simp [bb]
    refine loop1101b b (by omega) hO.sorts (by simp) (by simp [B.cells]) (by simp) (fun σ' h q2=>?_) fun σ' h q1 p1=>?_
    ·simp [q2,r1101,bb,e,h]
    simp
    refine loop1101c b (by omega) hO.cons (by simp [q1]) (by simp [p1]) (by simp) (fun σ' h2 q2=>?_) fun σ' h2=>?_
    ·rw [e,h,h2]
     simp [q2,r1101,bb]
    ·rw [e,h,h2]
     simp [r1101,bb]
 ·have e1:btw (b.sorts.length:Int) 1 4=false:=by simp [btw];omega
  have e2:b.shapeB=false:=by
   have:(!(decide (b.sorts.length < 1) || decide (4 < b.sorts.length) || decide (8 < b.cons.length) || !lvl b.elim))=false:=by
    by_cases h1:b.sorts.length < 1
    ·rw [decide_eq_true h1];rfl
    ·rw [decide_eq_false h1,decide_eq_true (show 4 < b.sorts.length by omega)];rfl
   rw [B.shapeB,this];simp
  simp [bb,e1]
  refine GCall.fn (res:=bb true) (fun h=>by cases h) rfl (by simp) rfl fun _=>?_
  simp [bb,r1101,e2]
end Go.Abs

namespace Go.Abs
open Go.Proofs
theorem plcv_val {base ahead k many n:Int} (h:plcv base ahead k many=n) (hn:0 ≤ n):0 ≤ base ∧ base ≤ 65535 ∧ 0 ≤ k ∧ k < many ∧ n=base + ahead + k:=by
 unfold plcv at h
 split at h
 ·omega
 ·omega
theorem decs_step (l:List S) (k:Nat) (s:S) (hs:l[k]? = some s):decs l (k + 1)=decs l k + if s.dec then 1 else 0:=by
 rw [decs,List.take_add_one,hs,List.countP_append];simp [decs]
theorem decs_mono (l:List S) {j k:Nat} (h:j ≤ k):decs l j ≤ decs l k:=by
 unfold decs
 have:l.take j=(l.take k).take j:=by rw [List.take_take];congr 1;omega
 rw [this]
 exact (List.take_sublist j (l.take k)).countP_le
theorem decAt_lt {b:B} {j k:Nat} (h:j < k) (hd:decAt b j=true):decs b.sorts j < decs b.sorts k:=by
 have hs:∃ s,b.sorts[j]? = some s ∧ s.dec=true:=by
  simp only [decAt,Int.toNat_natCast] at hd
  cases hx:b.sorts[j]? with
  | none=>simp [hx] at hd
  | some s=>exact ⟨s,rfl,by simpa [hx] using hd⟩
 obtain ⟨s,h1,h2⟩:=hs
 have:=decs_step b.sorts j s h1
 rw [h2] at this
 have:=decs_mono b.sorts (show j + 1 ≤ k by omega)
 simp at *
 omega
theorem dec_val {b:B} {base n:Int} {k:Int} (h:b.decoder base k=n) (hn:0 ≤ n):0 ≤ base ∧ base ≤ 65535 ∧ 0 ≤ k ∧ k < b.sorts.length ∧ decAt b k=true ∧ n=base + b.sorts.length + decs b.sorts k.toNat:=by
 unfold B.decoder at h
 split at h
 ·omega
 ·rename_i hc
  have:=plcv_val h hn
  have hd:decAt b k=true:=by
   cases e:decAt b k with
   | true=>rfl
   | false=>exact absurd (.inr (.inr e)) hc
  unfold plcv at h
  split at h
  ·omega
  ·refine ⟨this.1,this.2.1,by omega,by omega,hd,?_⟩
   have h1:=decs_le b.sorts k.toNat
   omega
theorem of_open {b:B} {base n:Int} (h0:0 ≤ base) (h1:base ≤ 65535) (h2:base ≤ n) (h3:n - base < b.count):b.ofK base n=match findK (b.former base) n b.sorts.length with
 | some k=>(3,k)
 | none=>match findK (b.decoder base) n b.sorts.length with
  | some k=>(4,k)
  | none=>match findK (b.constr base) n b.cons.length with
   | some k=>(5,k)
   | none=>match findK (b.elimn base) n b.sorts.length with
    | some k=>(6,k)
    | none=>(0,0):=by rw [B.ofK,if_neg (by omega)];rfl
theorem no_former {b:B} {base n:Int} (hn:0 ≤ n) (h:(b.sorts.length:Int) ≤ n - base):findK (b.former base) n b.sorts.length=none:=
 find_none fun j _ e=>by have:=plcv_val (show plcv _ _ _ _=n from e) hn;omega
theorem no_decoder {b:B} {base n:Int} (hn:0 ≤ n) (h:((b.sorts.length + decs b.sorts b.sorts.length:Nat):Int) ≤ n - base):findK (b.decoder base) n b.sorts.length=none:=
 find_none fun j hj e=>by
  have h1:=dec_val e hn
  have h2:=decAt_lt (b:=b) hj h1.2.2.2.2.1
  simp at h1
  omega
theorem no_constr {b:B} {base n:Int} (hn:0 ≤ n) (h:((b.sorts.length + decs b.sorts b.sorts.length + b.cons.length:Nat):Int) ≤ n - base):findK (b.constr base) n b.cons.length=none:=
 find_none fun j _ e=>by have:=plcv_val (show plcv _ _ _ _=n from e) hn;omega
theorem of_former {b:B} {base n:Int} {k:Nat} (hk:k < b.sorts.length) (h:b.former base k=n) (hn:0 ≤ n):b.ofK base n=(3,(k:Int)):=by
 have hv:=plcv_val (show plcv _ _ _ _=n from h) hn
 rw [of_open hv.1 hv.2.1 (by omega) (by simp only [B.count];omega),find_some hk (fun j hj e=>by have:=plcv_val (show plcv _ _ _ _=n from e) hn;omega) h]
theorem of_decoder {b:B} {base n:Int} {k:Nat} (hk:k < b.sorts.length) (h:b.decoder base k=n) (hn:0 ≤ n):b.ofK base n=(4,(k:Int)):=by
 have hv:=dec_val h hn
 have hle:=decs_le b.sorts k
 have hlt:=decAt_lt (b:=b) hk hv.2.2.2.2.1
 simp only [Int.toNat_natCast] at hv
 rw [of_open hv.1 hv.2.1 (by omega) (by simp only [B.count];omega),no_former hn (by omega),find_some hk (fun j hj e=>by
  have h1:=dec_val e hn
  have h2:=decAt_lt (b:=b) hj h1.2.2.2.2.1
  simp only [Int.toNat_natCast] at h1
  omega) h]
theorem of_constr {b:B} {base n:Int} {k:Nat} (hk:k < b.cons.length) (h:b.constr base k=n) (hn:0 ≤ n):b.ofK base n=(5,(k:Int)):=by
 have hv:=plcv_val (show plcv _ _ _ _=n from h) hn
 have hle:=decs_le b.sorts b.sorts.length
 rw [of_open hv.1 hv.2.1 (by omega) (by simp only [B.count];omega),no_former hn (by omega),no_decoder hn (by omega),find_some hk (fun j hj e=>by have:=plcv_val (show plcv _ _ _ _=n from e) hn;omega) h]
theorem of_elimn {b:B} {base n:Int} {k:Nat} (hk:k < b.sorts.length) (h:b.elimn base k=n) (hn:0 ≤ n):b.ofK base n=(6,(k:Int)):=by
 have hv:=plcv_val (show plcv _ _ _ _=n from h) hn
 have hle:=decs_le b.sorts b.sorts.length
 rw [of_open hv.1 hv.2.1 (by omega) (by simp only [B.count];omega),no_former hn (by omega),no_decoder hn (by omega),no_constr hn (by omega),find_some hk (fun j hj e=>by have:=plcv_val (show plcv _ _ _ _=n from e) hn;omega) h]
theorem of_no {b:B} {base n:Int} (h1:∀ k:Nat,k < b.sorts.length → b.former base k ≠ n ∧ b.decoder base k ≠ n ∧ b.elimn base k ≠ n) (h2:∀ k:Nat,k < b.cons.length → b.constr base k ≠ n):b.ofK base n=(0,0):=by
 unfold B.ofK
 split
 ·rfl
 ·rw [find_none fun k hk=>(h1 k hk).1,find_none fun k hk=>(h1 k hk).2.1,find_none h2,find_none fun k hk=>(h1 k hk).2.2]
structure FO2 (b:B) (base n:Int) (σ:St):Prop where
 s1:σ.sl 1=.c (.v (.int .i64 base))
 s2:σ.sl 2=.c (.v (.int .i64 n))
 s3:σ.sl 3=.c (.ref 1147003 (σ.tg 1147003) 0)
 o3:σ.ob 1147003=some (.box 68 b.cells)
def J1147a (b:B) (base n:Int) (m:Nat) (σ:St):Prop:=∃ j:Nat,j + m=b.sorts.length ∧ (∀ k:Nat,k < j → b.former base k ≠ n ∧ b.decoder base k ≠ n ∧ b.elimn base k ≠ n) ∧ FO2 b base n σ ∧ σ.sl 8=.c (.v (.int .i64 j))
theorem loop1147a {σ:St} {Q:SEx → St → Prop} (b:B) (base n:Int) (hn:0 ≤ n) (hl:b.sorts.length ≤ 1000000000000000) (H:FO2 b base n σ) (s8:σ.sl 8=.c (.v (.int .i64 (0:Nat))))
  (hR:∀ σ',σ'.sl 6=ib (b.ofK base n).1 → σ'.sl 7=ib (b.ofK base n).2 → Q .ret σ') (hQ:∀ σ',(∀ k:Nat,k < b.sorts.length → b.former base k ≠ n ∧ b.decoder base k ≠ n ∧ b.elimn base k ≠ n) → FO2 b base n σ' → Q .normal σ'):W Tryz.prog 1147000 (.loop c1147b0) σ (onBlock 0 Q):=by
 refine W_loop (J1147a b base n) b.sorts.length ⟨0,by simp,by simp,H,s8⟩ ?_
 clear H s8 σ
 rintro m σ ⟨j,hm,hp,⟨s1,s2,s3,o3⟩,s8⟩
 simp only [B.cells] at o3
 unfold c1147b0
 simp [s1,s2,s3,o3,s8]
 refine ECall.fn (fn1109 b) (by simp [bm,B.cells]) (by simp) rfl fun _=>?_
 by_cases hj:j < b.sorts.length
 ·have w1:=wrap_succ (i:=j) (by omega)
  simp [ib,s1,s2,s3,o3,s8,hj]
  refine ECall.fn (fn1074 b base j) (by simp [bm,ib,B.cells]) (by simp) rfl fun _=>?_
  by_cases c1:b.former base j=n
  ·simp [ib,s1,s2,s3,o3,s8,c1,hn]
   exact hR _ (by simp [of_former hj c1 hn,ib]) (by simp [of_former hj c1 hn,ib])
  simp [ib,s1,s2,s3,o3,s8,c1]
  refine ECall.fn (fn1075 b base j) (by simp [bm,ib,B.cells]) (by simp) rfl fun _=>?_
  by_cases c2:b.decoder base j=n
  ·simp [ib,s1,s2,s3,o3,s8,c2,hn]
   exact hR _ (by simp [of_decoder hj c2 hn,ib]) (by simp [of_decoder hj c2 hn,ib])
  simp [ib,s1,s2,s3,o3,s8,c2]
  refine ECall.fn (fn1077 b base j) (by simp [bm,ib,B.cells]) (by simp) rfl fun _=>?_
  by_cases c3:b.elimn base j=n
  ·simp [ib,s1,s2,s3,o3,s8,c3,hn]
   exact hR _ (by simp [of_elimn hj c3 hn,ib]) (by simp [of_elimn hj c3 hn,ib])
  simp [ib,s1,s2,s3,o3,s8,c3,w1]
  refine ⟨m - 1,by omega,j + 1,by omega,fun k hk=>?_,⟨by simp [s1],by simp [s2],by simp [s3],by simp [o3,B.cells]⟩,by simp⟩
  by_cases e:k=j
  ·subst e;exact ⟨c1,c2,c3⟩
  ·exact hp k (by omega)
 ·have:j=b.sorts.length:=by omega
  subst this
  simp [ib,s1,s2,s3,o3,s8]
  exact hQ _ hp ⟨by simp [s1],by simp [s2],by simp [s3],by simp [o3,B.cells]⟩
def J1147b (b:B) (base n:Int) (m:Nat) (σ:St):Prop:=∃ j:Nat,j + m=b.cons.length ∧ (∀ k:Nat,k < j → b.constr base k ≠ n) ∧ FO2 b base n σ ∧ σ.sl 9=.c (.v (.int .i64 j))
theorem loop1147b {σ:St} {Q:SEx → St → Prop} (b:B) (base n:Int) (hn:0 ≤ n) (hl:b.cons.length ≤ 1000000000000000) (H:FO2 b base n σ) (s9:σ.sl 9=.c (.v (.int .i64 (0:Nat))))
  (hR:∀ σ',σ'.sl 6=ib (b.ofK base n).1 → σ'.sl 7=ib (b.ofK base n).2 → Q .ret σ') (hQ:∀ σ',(∀ k:Nat,k < b.cons.length → b.constr base k ≠ n) → Q .normal σ'):W Tryz.prog 1147000 (.loop c1147b1) σ (onBlock 2 Q):=by
 refine W_loop (J1147b b base n) b.cons.length ⟨0,by simp,by simp,H,s9⟩ ?_
 clear H s9 σ
 rintro m σ ⟨j,hm,hp,⟨s1,s2,s3,o3⟩,s9⟩
 simp only [B.cells] at o3
 unfold c1147b1
 by_cases hj:j < b.cons.length
 ·have w1:=wrap_succ (i:=j) (by omega)
  simp [s1,s2,s3,o3,s9,hj]
  refine ECall.fn (fn1076 b base j) (by simp [bm,ib,B.cells]) (by simp) rfl fun _=>?_
  by_cases c1:b.constr base j=n
  ·simp [ib,s1,s2,s3,o3,s9,c1,hn]
   exact hR _ (by simp [of_constr hj c1 hn,ib]) (by simp [of_constr hj c1 hn,ib])
  simp [ib,s1,s2,s3,o3,s9,c1,w1]
  refine ⟨m - 1,by omega,j + 1,by omega,fun k hk=>?_,⟨by simp [s1],by simp [s2],by simp [s3],by simp [o3,B.cells]⟩,by simp⟩
  by_cases e:k=j
  ·subst e;exact c1
  ·exact hp k (by omega)
 ·have:j=b.cons.length:=by omega
  subst this
  simp [s1,s2,s3,o3,s9]
  exact hQ _ hp
theorem fn1147 (b:B) (base n:Int) (hn:0 ≤ n):Fn Tryz.prog 147 [bm b,ib base,ib n] (.tup [ib (b.ofK base n).1,ib (b.ofK base n).2]):=by
 refine fn_of (base:=1147000) ok1147 rfl fun σ h0 hr=>?_
 have s0:σ.sl 0=bm b:=h0 0
 have s1:σ.sl 1=.c (.v (.int .i64 base)):=h0 1
 have s2:σ.sl 2=.c (.v (.int .i64 n)):=h0 2
 have hl1:=real_b1 (hr (bm b) (by simp))
 have hl2:=real_b2 (hr (bm b) (by simp))
 simp only [bm,B.cells] at s0
 clear h0 hr
 unfold c1147
 simp [s0,s1,s2,-W_block]
 rw [W_block]
 refine loop1147a b base n hn (by omega) ⟨by simp [s1],by simp [s2],by simp,by simp [B.cells]⟩ (by simp) (fun σ' q6 q7=>?_) fun σ' h1 H=>?_
 ·simp [q6,q7,r1147,ib]
 obtain ⟨q1,q2,q3,p3⟩:=H
 simp [-W_block]
 rw [W_block]
 refine loop1147b b base n hn (by omega) ⟨by simp [q1],by simp [q2],by simp [q3],by simp [p3]⟩ (by simp) (fun σ' q6 q7=>?_) fun σ' h2=>?_
 ·simp [q6,q7,r1147,ib]
 ·simp [of_no h1 h2,r1147,ib]
end Go.Abs

namespace Go.Abs
def c1020:SCode:=
 .seq (.reg [o_ 2 (.mv (.nil 1 8))]) (.seq (.reg [o_ 3 (.mv (.nil 1 8))]) (.seq (.reg [m_ 4 3,m_ 5 0,o_ 6 (.app 3 1 8 (.t 4) (.t 5)),m_ 2 6]) (.ret)))
def r1020:List RR:=[.t 2]
theorem ok1020:okFn Go.Proofs.Tryz.prog 20 7 c1020 r1020 1=true:=by kernel_rfl
def c1019b0:SCode:=
 .seq (.seq (.reg [m_ 6 4,m_ 7 0,o_ 8 (.len 37 (.t 7)),o_ 9 (.bin .lss (.t 6) (.t 8))]) (.cond (.t 9) (.skip) (.exit 0))) (.seq (.block 1 (.seq (.reg [m_ 12 0,m_ 13 4,o_ 14 (.iad 70 12 (.t 12) (.t 13)),o_ 15 (.ldn 70 12 (.t 14)),o_ 5 (.alloc 70 [.v (.int .i64 0),.v (.int .i64 0),.v (.int .i64 0),.cap 3 40 [],.v (.int .i64 0),.v (.int .i64 0),.cap 3 40 [],.v (.int .i64 0),.v (.int .i64 0),.cap 6 80 [],.cap 6 96 [],.v (.int .i64 0)]),n_ (.stn 70 12 (.t 5) (.t 15))]) (.seq (.dreg [0,1,3,0,8,31,0,64,255,223,1023,2047,4095,8191,16383] [o_ 16 (.fad 70 1 1 (.t 5)),o_ 17 (.ldn 63 3 (.t 16)),o_ 18 (.call (.f 44) [.t 17]),o_ 19 (.fad 70 2 4 (.t 5)),o_ 20 (.ldn 63 3 (.t 19)),o_ 21 (.call (.f 44) [.t 20]),o_ 22 (.fad 70 5 9 (.t 5)),o_ 23 (.ldn 68 3 (.t 22)),o_ 24 (.call (.f 45) [.t 23]),o_ 25 (.fad 70 1 1 (.t 5)),n_ (.stn 63 3 (.t 25) (.t 18)),o_ 26 (.fad 70 2 4 (.t 5)),
 n_ (.stn 63 3 (.t 26) (.t 21)),o_ 27 (.fad 70 5 9 (.t 5)),n_ (.stn 68 3 (.t 27) (.t 24))]) (.reg [m_ 28 3,o_ 29 (.ldn 70 12 (.t 5)),o_ 30 (.lit 70 12 160 [.t 29]),o_ 31 (.app 70 12 160 (.t 28) (.t 30)),m_ 3 31])))) (.reg [m_ 10 4,o_ 11 (.bin .add (.t 10) (.k (.int .i64 1))),m_ 4 11]))
def c1019:SCode:=
 .seq (.reg [o_ 2 (.mv (.nil 12 160))]) (.seq (.reg [o_ 3 (.mv (.nil 12 160))]) (.seq (.seq (.reg [o_ 4 (.mv (.k (.int .i64 0)))]) (.block 0 (.loop c1019b0))) (.seq (.reg [m_ 32 3,m_ 2 32]) (.ret))))
def r1019:List RR:=[.t 2]
theorem ok1019:okFn Go.Proofs.Tryz.prog 19 33 c1019 r1019 1=true:=by kernel_rfl
def c1024b0:SCode:=
 .seq (.seq (.reg [m_ 21 7,m_ 22 6,o_ 23 (.len 24 (.t 22)),o_ 24 (.bin .lss (.t 21) (.t 23))]) (.cond (.t 24) (.skip) (.exit 0))) (.seq (.block 1 (.reg [m_ 27 5,m_ 28 6,m_ 29 7,o_ 30 (.iad 3 1 (.t 28) (.t 29)),o_ 31 (.ld1 3 (.t 30)),o_ 32 (.call (.f 51) [.t 27,.t 31]),m_ 5 32])) (.reg [m_ 25 7,o_ 26 (.bin .add (.t 25) (.k (.int .i64 1))),m_ 7 26]))
def c1024b1:SCode:=
 .seq (.seq (.reg [m_ 38 8,m_ 39 1,o_ 40 (.bin .lss (.t 38) (.t 39)),m_ 41 40,pm_ 42 41 0,pm_ 43 41 1,p_ 44 41 (.iad 70 12 (.t 42) (.t 43)),p_ 45 41 (.fad 70 0 0 (.t 44)),p_ 46 41 (.ld1 3 (.t 45)),p_ 47 41 (.bin .gtr (.t 46) (.k (.int .i64 2))),o_ 48 (.pick (.t 41) (.t 47) (.k (.bool false)))]) (.cond (.t 48) (.skip) (.exit 2))) (.seq (.block 3 (.reg [m_ 51 5,m_ 52 8,o_ 53 (.call (.f 51) [.t 51,.t 52]),m_ 5 53])) (.reg [m_ 49 8,o_ 50 (.bin .add (.t 49) (.k (.int .i64 1))),m_ 8 50]))
def c1024:SCode:=
 .seq (.reg [o_ 4 (.mv (.nil 1 8))]) (.seq (.reg [m_ 9 0,m_ 10 1,o_ 11 (.iad 70 12 (.t 9) (.t 10)),o_ 12 (.fad 70 1 1 (.t 11)),o_ 13 (.ldn 63 3 (.t 12)),o_ 14 (.call (.f 50) [.t 13]),m_ 5 14]) (.seq (.reg [m_ 15 0,m_ 16 1,o_ 17 (.iad 70 12 (.t 15) (.t 16)),o_ 18 (.fad 70 2 4 (.t 17)),o_ 19 (.ldn 63 3 (.t 18)),o_ 20 (.call (.f 50) [.t 19]),m_ 6 20]) (.seq (.seq (.reg [o_ 7 (.mv (.k (.int .i64 0)))]) (.block 0 (.loop c1024b0))) (.seq (.seq (.reg [m_ 33 0,m_ 34 1,o_ 35 (.iad 70 12 (.t 33) (.t 34)),o_ 36 (.fad 70 3 7 (.t 35)),o_ 37 (.ld1 3 (.t 36)),m_ 8 37]) (.block 2 (.loop c1024b1))) (.seq (.reg [m_ 54 5,m_ 4 54]) (.ret))))))
def r1024:List RR:=[.t 4]
theorem ok1024:okFn Go.Proofs.Tryz.prog 24 55 c1024 r1024 2=true:=by kernel_rfl
def c1025b0:SCode:=
 .seq (.seq (.reg [m_ 11 6,o_ 12 (.len 24 (.t 11)),o_ 13 (.bin .gtr (.t 12) (.k (.int .i64 0)))]) (.cond (.t 13) (.skip) (.exit 0))) (.block 1 (.seq (.reg [m_ 14 6,o_ 15 (.iad 3 1 (.t 14) (.k (.int .i64 0))),o_ 16 (.ld1 3 (.t 15)),m_ 7 16]) (.seq (.reg [m_ 17 6,o_ 18 (.cut 3 1 (.t 17) (.k (.int .i64 1))),m_ 6 18]) (.seq (.seq (.reg [m_ 19 5,o_ 20 (.len 24 (.t 19)),m_ 8 20]) (.seq (.reg [m_ 21 5,m_ 22 7,o_ 23 (.call (.f 51) [.t 21,.t 22]),o_ 24 (.len 24 (.t 23)),m_ 25 8,o_ 26 (.bin .eql (.t 24) (.t 25))]) (.cond (.t 26) (.exit 1) (.skip)))) (.seq (.reg [m_ 27 5,m_ 28 7,o_ 29 (.call (.f 51) [.t 27,.t 28]),m_ 5 29]) (.reg [m_ 30 6,m_ 31 0,m_ 32 7,o_ 33 (.call (.f 24) [.t 31,.t 32]),o_ 34 (.app 3 1 8 (.t 30) (.t 33)),m_ 6 34]))))))
def c1025:SCode:=
 .seq (.reg [o_ 4 (.mv (.nil 1 8))]) (.seq (.reg [o_ 5 (.mv (.nil 1 8))]) (.seq (.reg [m_ 9 1,o_ 10 (.call (.f 20) [.t 9]),m_ 6 10]) (.seq (.block 0 (.loop c1025b0)) (.seq (.reg [m_ 35 5,m_ 4 35]) (.ret)))))
def r1025:List RR:=[.t 4]
theorem ok1025:okFn Go.Proofs.Tryz.prog 25 36 c1025 r1025 2=true:=by kernel_rfl
def c1026b0:SCode:=
 .seq (.seq (.reg [m_ 32 11,m_ 33 1,o_ 34 (.len 22 (.t 33)),o_ 35 (.bin .lss (.t 32) (.t 34)),m_ 36 35,pm_ 37 36 10,o_ 38 (.pick (.t 36) (.t 37) (.k (.bool false)))]) (.cond (.t 38) (.skip) (.exit 4))) (.seq (.block 5 (.reg [m_ 41 1,m_ 42 11,o_ 43 (.iad 28 2 (.t 41) (.t 42)),o_ 44 (.iaa 3 1 2 (.t 43) (.k (.int .i64 1))),o_ 45 (.ld1 3 (.t 44)),m_ 46 9,o_ 47 (.bin .neq (.t 45) (.t 46)),m_ 48 47,qm_ 49 48 7,qm_ 50 48 1,qm_ 51 48 11,q_ 52 48 (.iad 28 2 (.t 50) (.t 51)),q_ 53 48 (.iaa 3 1 2 (.t 52) (.k (.int .i64 0))),q_ 54 48 (.ld1 3 (.t 53)),q_ 55 48 (.iad 4 1 (.t 49) (.t 54)),q_ 56 48 (.ld1 4 (.t 55)),o_ 57 (.pick (.t 48) (.k (.bool true)) (.t 56)),m_ 10 57])) (.reg [m_ 39 11,o_ 40 (.bin .add (.t 39) (.k (.int .i64 1))),m_ 11 40]))
def c1026b1:SCode:=
 .seq (.seq (.reg [m_ 18 9,m_ 19 0,o_ 20 (.bin .lss (.t 18) (.t 19)),m_ 21 20,pm_ 22 21 8,p_ 23 21 (.bin .lss (.t 22) (.k (.int .i64 0))),o_ 24 (.pick (.t 21) (.t 23) (.k (.bool false)))]) (.cond (.t 24) (.skip) (.exit 2))) (.seq (.block 3 (.seq (.reg [m_ 27 7,m_ 28 9,o_ 29 (.iad 4 1 (.t 27) (.t 28)),o_ 30 (.ld1 4 (.t 29)),o_ 31 (.not (.t 30)),m_ 10 31]) (.seq (.seq (.reg [o_ 11 (.mv (.k (.int .i64 0)))]) (.block 4 (.loop c1026b0))) (.seq (.reg [m_ 58 10]) (.cond (.t 58) (.reg [m_ 59 9,m_ 8 59]) (.skip)))))) (.reg [m_ 25 9,o_ 26 (.bin .add (.t 25) (.k (.int .i64 1))),m_ 9 26]))
def c1026b2:SCode:=
 .seq (.seq (.reg [m_ 14 6,o_ 15 (.len 24 (.t 14)),m_ 16 0,o_ 17 (.bin .lss (.t 15) (.t 16))]) (.cond (.t 17) (.skip) (.exit 0))) (.block 1 (.seq (.reg [o_ 8 (.mv (.k (.int .i64 (-1))))]) (.seq (.seq (.reg [o_ 9 (.mv (.k (.int .i64 0)))]) (.block 2 (.loop c1026b1))) (.seq (.seq (.reg [m_ 60 8,o_ 61 (.bin .lss (.t 60) (.k (.int .i64 0)))]) (.cond (.t 61) (.seq (.reg [o_ 4 (.mv (.nil 1 8)),o_ 5 (.mv (.k (.bool false)))]) (.ret)) (.skip))) (.seq (.reg [m_ 62 7,m_ 63 8,o_ 64 (.iad 4 1 (.t 62) (.t 63)),n_ (.st1 4 (.t 64) (.k (.bool true)))]) (.reg [m_ 65 6,m_ 66 8,o_ 67 (.lit 3 1 8 [.t 66]),o_ 68 (.app 3 1 8 (.t 65) (.t 67)),m_ 6 68]))))))
def c1026:SCode:=
 .seq (.reg [o_ 4 (.mv (.nil 1 8)),o_ 5 (.mv (.k (.bool false)))]) (.seq (.reg [o_ 6 (.mv (.nil 1 8))]) (.seq (.reg [m_ 12 0,o_ 13 (.mk 4 1 1 [.v (.bool false)] (.t 12)),m_ 7 13]) (.seq (.block 0 (.loop c1026b2)) (.seq (.reg [m_ 69 6,m_ 4 69,o_ 5 (.mv (.k (.bool true)))]) (.ret)))))
def r1026:List RR:=[.t 4,.t 5]
theorem ok1026:okFn Go.Proofs.Tryz.prog 26 70 c1026 r1026 2=true:=by kernel_rfl
def c1045b0:SCode:=
 .seq (.seq (.reg [m_ 10 4,o_ 11 (.fad 68 0 0 (.t 1)),o_ 12 (.ld1 65 (.t 11)),o_ 13 (.len 65 (.t 12)),o_ 14 (.bin .lss (.t 10) (.t 13))]) (.cond (.t 14) (.skip) (.exit 0))) (.seq (.block 1 (.seq (.reg [o_ 17 (.fad 68 0 0 (.t 1)),o_ 18 (.ld1 65 (.t 17)),m_ 19 4,o_ 20 (.iad 104 6 (.t 18) (.t 19)),o_ 21 (.ldn 104 6 (.t 20)),o_ 5 (.alloc 104 [.cap 7 104 [],.v (.int .i64 0),.v (.bool false),.v (.int .i64 0),.v (.int .i64 0),.cap 3 40 []]),n_ (.stn 104 6 (.t 5) (.t 21))]) (.seq (.dreg [0,1,3,0,8,31,31,127,255,511] [o_ 22 (.fad 104 0 0 (.t 5)),o_ 23 (.ld1 102 (.t 22)),o_ 24 (.call (.f 66) [.t 23]),o_ 25 (.fad 104 3 3 (.t 5)),o_ 26 (.ldn 63 3 (.t 25)),o_ 27 (.call (.f 44) [.t 26]),o_ 28 (.fad 104 0 0 (.t 5)),n_ (.st1 102 (.t 28) (.t 24)),o_ 29 (.fad 104 3 3 (.t 5)),n_ (.stn 63 3 (.t 29) (.t 27))]) (.reg [o_ 30 (.fad 68 0 0 (.t 3)),o_ 31 (.ld1 65 (.t 30)),o_ 32 (.ldn 104 6 (.t 5)),
 o_ 33 (.lit 104 6 80 [.t 32]),o_ 34 (.app 104 6 80 (.t 31) (.t 33)),o_ 35 (.fad 68 0 0 (.t 3)),n_ (.st1 65 (.t 35) (.t 34))])))) (.reg [m_ 15 4,o_ 16 (.bin .add (.t 15) (.k (.int .i64 1))),m_ 4 16]))
def c1045b1:SCode:=
 .seq (.seq (.reg [m_ 36 6,o_ 37 (.fad 68 1 1 (.t 1)),o_ 38 (.ld1 66 (.t 37)),o_ 39 (.len 66 (.t 38)),o_ 40 (.bin .lss (.t 36) (.t 39))]) (.cond (.t 40) (.skip) (.exit 2))) (.seq (.block 3 (.dreg [0,1,0,4,0,28,60,124,252,511,1023,2047] [o_ 43 (.fad 68 1 1 (.t 3)),o_ 44 (.ld1 66 (.t 43)),o_ 45 (.fad 68 1 1 (.t 1)),o_ 46 (.ld1 66 (.t 45)),m_ 47 6,o_ 48 (.iad 106 6 (.t 46) (.t 47)),o_ 49 (.ldn 106 6 (.t 48)),o_ 50 (.call (.f 67) [.t 49]),o_ 51 (.lit 106 6 96 [.t 50]),o_ 52 (.app 106 6 96 (.t 44) (.t 51)),o_ 53 (.fad 68 1 1 (.t 3)),n_ (.st1 66 (.t 53) (.t 52))])) (.reg [m_ 41 6,o_ 42 (.bin .add (.t 41) (.k (.int .i64 1))),m_ 6 42]))
def c1045:SCode:=
 .seq (.reg [o_ 1 (.box 68 (.t 0)),o_ 2 (.alloc 68 [.cap 6 80 [],.cap 6 96 [],.v (.int .i64 0)])]) (.seq (.reg [o_ 7 (.fad 68 2 2 (.t 1)),o_ 8 (.ld1 3 (.t 7)),o_ 9 (.build 68 [.cap 6 80 [],.cap 6 96 [],.v (.int .i64 0)] [(2,2,1,.t 8)]),o_ 3 (.alloc 68 [.cap 6 80 [],.cap 6 96 [],.v (.int .i64 0)]),n_ (.stn 68 3 (.t 3) (.t 9))]) (.seq (.seq (.reg [o_ 4 (.mv (.k (.int .i64 0)))]) (.block 0 (.loop c1045b0))) (.seq (.seq (.reg [o_ 6 (.mv (.k (.int .i64 0)))]) (.block 2 (.loop c1045b1))) (.seq (.reg [o_ 54 (.ldn 68 3 (.t 3)),n_ (.stn 68 3 (.t 2) (.t 54))]) (.ret)))))
def r1045:List RR:=[.cn 2 3]
theorem ok1045:okFn Go.Proofs.Tryz.prog 45 55 c1045 r1045 1=true:=by kernel_rfl
def c1066b0:SCode:=
 .seq (.seq (.reg [m_ 6 4,m_ 7 0,o_ 8 (.len 102 (.t 7)),o_ 9 (.bin .lss (.t 6) (.t 8))]) (.cond (.t 9) (.skip) (.exit 0))) (.seq (.block 1 (.seq (.reg [m_ 12 0,m_ 13 4,o_ 14 (.iad 126 7 (.t 12) (.t 13)),o_ 15 (.ldn 126 7 (.t 14)),o_ 5 (.alloc 126 [.v (.bool false),.v (.int .i64 0),.v (.int .i64 0),.cap 3 40 [],.cap 3 40 [],.v (.int .i64 0),.cap 3 40 []]),n_ (.stn 126 7 (.t 5) (.t 15))]) (.seq (.dreg [0,1,3,0,8,31,0,64,255,223,1023,2047,4095,8191,16383] [o_ 16 (.fad 126 1 1 (.t 5)),o_ 17 (.ldn 63 3 (.t 16)),o_ 18 (.call (.f 44) [.t 17]),o_ 19 (.fad 126 2 4 (.t 5)),o_ 20 (.ld1 61 (.t 19)),o_ 21 (.call (.f 65) [.t 20]),o_ 22 (.fad 126 4 6 (.t 5)),o_ 23 (.ld1 61 (.t 22)),o_ 24 (.call (.f 65) [.t 23]),o_ 25 (.fad 126 1 1 (.t 5)),n_ (.stn 63 3 (.t 25) (.t 18)),o_ 26 (.fad 126 2 4 (.t 5)),n_ (.st1 61 (.t 26) (.t 21)),o_ 27 (.fad 126 4 6 (.t 5)),n_ (.st1 61 (.t 27) (.t 24))])
 (.reg [m_ 28 3,o_ 29 (.ldn 126 7 (.t 5)),o_ 30 (.lit 126 7 104 [.t 29]),o_ 31 (.app 126 7 104 (.t 28) (.t 30)),m_ 3 31])))) (.reg [m_ 10 4,o_ 11 (.bin .add (.t 10) (.k (.int .i64 1))),m_ 4 11]))
def c1066:SCode:=
 .seq (.reg [o_ 2 (.mv (.nil 7 104))]) (.seq (.reg [o_ 3 (.mv (.nil 7 104))]) (.seq (.seq (.reg [o_ 4 (.mv (.k (.int .i64 0)))]) (.block 0 (.loop c1066b0))) (.seq (.reg [m_ 32 3,m_ 2 32]) (.ret))))
def r1066:List RR:=[.t 2]
theorem ok1066:okFn Go.Proofs.Tryz.prog 66 33 c1066 r1066 1=true:=by kernel_rfl
def c1067:SCode:=
 .seq (.reg [o_ 1 (.box 106 (.t 0)),o_ 2 (.alloc 106 [.v (.int .i64 0),.cap 7 104 [],.cap 3 40 [],.v (.int .i64 0),.v (.int .i64 0),.cap 3 40 []])]) (.seq (.dreg [0,1,3,0,8,31,0,64,255,223,1023,2047,4095,8191,16383] [o_ 3 (.fad 106 1 1 (.t 1)),o_ 4 (.ld1 102 (.t 3)),o_ 5 (.call (.f 66) [.t 4]),o_ 6 (.fad 106 2 2 (.t 1)),o_ 7 (.ld1 61 (.t 6)),o_ 8 (.call (.f 65) [.t 7]),o_ 9 (.fad 106 3 3 (.t 1)),o_ 10 (.ldn 63 3 (.t 9)),o_ 11 (.call (.f 44) [.t 10]),o_ 12 (.fad 106 1 1 (.t 1)),n_ (.st1 102 (.t 12) (.t 5)),o_ 13 (.fad 106 2 2 (.t 1)),n_ (.st1 61 (.t 13) (.t 8)),o_ 14 (.fad 106 3 3 (.t 1)),n_ (.stn 63 3 (.t 14) (.t 11))]) (.seq (.reg [o_ 15 (.ldn 106 6 (.t 1)),n_ (.stn 106 6 (.t 2) (.t 15))]) (.ret)))
def r1067:List RR:=[.cn 2 6]
theorem ok1067:okFn Go.Proofs.Tryz.prog 67 16 c1067 r1067 1=true:=by kernel_rfl
end Go.Abs

namespace Go.Abs
open Go.Proofs
theorem sp1020 (l:List Int):SpecNew Tryz.prog 20 [is l] (.c (.own 0 0)) (.row 3 1 8 (ic l)):=by
 refine new_of (base:=1020000) 1020006 ok1020 rfl rfl rfl fun σ h0 hr=>?_
 have s0:σ.sl 0=.c (.sl 1 8 (ic l)):=h0 0
 have hl:=real_is (hr (is l) (by simp))
 clear h0 hr
 unfold c1020
 simp [s0]
 refine ⟨by simp [room];omega,?_⟩
 refine ⟨_,.refl _,?_,?_,?_⟩
 ·simp [r1020]
 ·simp [resN,resLN,rrEvN,r1020]
 ·simp
def argV:List A → Nat → List Int
 | [],_=>[]
 | a :: l,i=>(if a.rc then (i:Int) else -1) :: argV l (i + 1)
theorem argV_len:∀ (l:List A) (i:Nat),(argV l i).length=l.length
 | [],_=>rfl
 | a :: l,i=>by simp [argV,argV_len l (i + 1)]
theorem argV_at:∀ {l:List A} {i j:Nat} {a:A},l[j]? = some a → (argV l i)[j]? = some (if a.rc then ((i + j:Nat):Int) else -1)
 | [],_,_,_,h=>by simp at h
 | b :: l,i,0,a,h=>by simp at h;subst h;simp [argV]
 | b :: l,i,j + 1,a,h=>by
  have:=argV_at (i:=i + 1) (show l[j]? = some a by simpa using h)
  simp [argV,this]
  split
  ·omega
  ·rfl
def PL.vars (p:PL):List Int:=argV p.args 0 ++ List.replicate p.more (-1)
def PL.rcells (p:PL):List Cell:=[.sl 6 80 (p.b.sorts.map S.cells),.sl 6 96 (p.b.cons.map K.cells),.v (.int .i64 p.b.elim),.v (.int .i64 p.base),.sl 1 8 (ic p.vars),.sl 7 104 (p.args.map A.cells)]
def rpl (p:PL):AV:=.agg p.rcells
theorem vars_len (p:PL):p.vars.length=p.args.length + p.more:=by simp [PL.vars,argV_len]
theorem real_rpl {p:PL} (h:Real (rpl p)):(p.args.length + p.more) * 8 ≤ 140737488355328:=by
 have:=real_cell h (show .sl 1 8 (ic p.vars) ∈ p.rcells by simp [PL.rcells]);rw [← vars_len];simpa [room,ic] using this
def gvar (p:PL) (n:Int):Int:=if ((p.args.length + p.more:Nat):Int) ≤ n then -1 else (p.vars[((p.args.length + p.more:Nat) - 1 - n).toNat]?).getD (-1)
theorem gvar_guarded (p:PL) (t:T) (hk:t.kind=1) (hn:0 ≤ t.val):(p.guarded t).2=decide (0 ≤ gvar p t.val) ∧ ((p.guarded t).2=true → (p.guarded t).1=gvar p t.val):=by
 unfold PL.guarded gvar
 by_cases h1:(p.more:Int) ≤ t.val ∧ t.val - p.more < p.args.length
 ·rw [if_pos ⟨hk,h1⟩,if_neg (by omega)]
  obtain ⟨a,ha⟩:=at_of (ts:=p.args) (i:=((p.args.length:Int) - 1 - (t.val - p.more)).toNat) (by omega)
  have hv:p.vars[(((p.args.length + p.more:Nat):Int) - 1 - t.val).toNat]? = some (if a.rc then (((p.args.length:Int) - 1 - (t.val - p.more)).toNat:Int) else -1):=by
   have e:(((p.args.length + p.more:Nat):Int) - 1 - t.val).toNat=((p.args.length:Int) - 1 - (t.val - p.more)).toNat:=by omega
   rw [e,PL.vars,List.getElem?_append_left (by rw [argV_len];omega),argV_at ha,Nat.zero_add]
  have e2:((p.args.length + p.more:Nat) - 1 - t.val).toNat=(((p.args.length + p.more:Nat):Int) - 1 - t.val).toNat:=rfl
  rw [hv]
  simp only [ha,Option.getD_some]
  cases a.rc with
  | true=>simp;omega
  | false=>simp
 ·rw [if_neg (fun h=>h1 h.2)]
  split
  ·simp
  ·rename_i h2
   have:p.vars[(((p.args.length + p.more:Nat):Int) - 1 - t.val).toNat]? = some (-1):=by
    rw [PL.vars,List.getElem?_append_right (by rw [argV_len];omega),List.getElem?_replicate,if_pos (by rw [argV_len];omega)]
   rw [this]
   simp
theorem fn1146 (p:PL) (n:Int) (hn:0 ≤ n):Fn Tryz.prog 146 [rpl p,ib n] (ib (gvar p n)):=by
 refine fn_of (base:=1146000) ok1146 rfl fun σ h0 hr=>?_
 have s0:σ.sl 0=rpl p:=h0 0
 have s1:σ.sl 1=.c (.v (.int .i64 n)):=h0 1
 have hl:=real_rpl (hr (rpl p) (by simp))
 have hvl:=vars_len p
 simp only [rpl,PL.rcells] at s0
 clear h0 hr
 unfold c1146
 by_cases c1:((p.args.length + p.more:Nat):Int) ≤ n
 ·have e:gvar p n=-1:=by rw [gvar,if_pos c1]
  have c1':(p.vars.length:Int) ≤ n:=by rw [hvl];exact c1
  simp [s0,s1,c1',r1146,ib,e]
 ·have c1':¬ (p.vars.length:Int) ≤ n:=by rw [hvl];exact c1
  have w0:IntKind.wrap .i64 ((p.vars.length:Int) - 1)=(p.vars.length:Int) - 1:=wrap_id (by omega) (by omega)
  have w1:IntKind.wrap .i64 ((p.vars.length:Int) - 1 - n)=(p.vars.length:Int) - 1 - n:=wrap_id (by omega) (by omega)
  obtain ⟨j,hj⟩:=Int.eq_ofNat_of_zero_le (a:=(p.vars.length:Int) - 1 - n) (by omega)
  obtain ⟨x,hx⟩:=at_of (ts:=p.vars) (i:=j) (by omega)
  obtain ⟨hjl,hx2⟩:=getE hx
  have e:gvar p n=x:=by
   rw [gvar,if_neg c1]
   have:((p.args.length + p.more:Nat) - 1 - n).toNat=j:=by omega
   rw [this,hx];rfl
  rw [hj] at w1
  simp [s0,s1,c1',w0,w1,hj,hjl,hx2,r1146,ib,e]
def VB (σ:St) (k:Nat) (b:B) (base:Int) (l:List A) (acc:List Int) (Ks:List Nat):Prop:=
 ∃ V,σ.ob k=some (.box 134 [.sl 6 80 (b.sorts.map S.cells),.sl 6 96 (b.cons.map K.cells),.v (.int .i64 b.elim),.v (.int .i64 base),V,.sl 7 104 (l.map A.cells)]) ∧
  ((V=.cap 1 8 [] ∧ acc=[]) ∨ ∃ K,K ∈ Ks ∧ V=.own K (σ.tg K) ∧ σ.ob K=some (.row 3 1 8 (ic acc)))
structure FP4 (b:B) (base:Int) (l:List A) (σ:St):Prop where
 s2:σ.sl 2=.c (.sl 7 104 (l.map A.cells))
 s7:σ.sl 7=.c (.ref 1104007 (σ.tg 1104007) 0)
 s6:σ.sl 6=.c (.ref 1104006 (σ.tg 1104006) 0)
 o6:σ.ob 1104006=some (.box 134 [.cap 6 80 [],.cap 6 96 [],.v (.int .i64 0),.v (.int .i64 0),.cap 1 8 [],.cap 7 104 []])
def J1104 (b:B) (base:Int) (l:List A) (m:Nat) (σ:St):Prop:=∃ (j:Nat) (acc:List Int),j + m=l.length ∧ acc ++ argV (l.drop j) j=argV l 0 ∧ acc.length=j ∧ FP4 b base l σ ∧ σ.sl 8=.c (.v (.int .i64 j)) ∧ VB σ 1104007 b base l acc [1104028,1104033]
theorem loop1104 {σ:St} {Q:SEx → St → Prop} (b:B) (base:Int) (l:List A) (hl:l.length ≤ 10000000000000) (H:FP4 b base l σ) (s8:σ.sl 8=.c (.v (.int .i64 (0:Nat)))) (hV:VB σ 1104007 b base l [] [1104028,1104033])
  (hQ:∀ σ',FP4 b base l σ' → VB σ' 1104007 b base l (argV l 0) [1104028,1104033] → Q .normal σ'):W Tryz.prog 1104000 (.loop c1104b0) σ (onBlock 0 Q):=by
 refine W_loop (J1104 b base l) l.length ⟨0,[],by simp,by simp,rfl,H,s8,hV⟩ ?_
 clear H s8 hV σ
 rintro m σ ⟨j,acc,hm,hp,hal,⟨s2,s7,s6,o6⟩,s8,V,o7,hV⟩
 unfold c1104b0
 by_cases hj:j < l.length
 ·have w1:=wrap_succ (i:=j) (by omega)
  obtain ⟨a,ha1⟩:=at_of hj
  obtain ⟨_,ha2⟩:=getE ha1
  rw [drop_at ha1,argV] at hp
  cases hrc:a.rc with
  | true=>
   rw [hrc] at hp
   rcases hV with ⟨rfl,rfl⟩ | ⟨K,hK,rfl,oK⟩
   ·simp [s2,s7,s6,o7,s8,hj,ha2,A.cells,hrc,w1]
    refine ⟨by simp [room],m - 1,by omega,j + 1,[(j:Int)],by omega,by simpa using hp,by simp at hal;simp;omega,⟨by simp [s2],by simp [s7],by simp [s6],by simp [o6]⟩,by simp,_,by simp;rfl,?_⟩
    exact .inr ⟨1104028,by simp,by simp,by simp [ic]⟩
   ·simp at hK
    rcases hK with rfl | rfl
    ·simp [s2,s7,s6,o7,oK,s8,hj,ha2,A.cells,hrc,w1]
     refine ⟨by simp [room],by simp [room];omega,m - 1,by omega,j + 1,acc ++ [(j:Int)],by omega,by simpa using hp,by simp [hal],⟨by simp [s2],by simp [s7],by simp [s6],by simp [o6]⟩,by simp,_,by simp;rfl,?_⟩
     exact .inr ⟨1104028,by simp,by simp,by simp [ic]⟩
    ·simp [s2,s7,s6,o7,oK,s8,hj,ha2,A.cells,hrc,w1]
     refine ⟨by simp [room],by simp [room];omega,m - 1,by omega,j + 1,acc ++ [(j:Int)],by omega,by simpa using hp,by simp [hal],⟨by simp [s2],by simp [s7],by simp [s6],by simp [o6]⟩,by simp,_,by simp;rfl,?_⟩
     exact .inr ⟨1104028,by simp,by simp,by simp [ic]⟩
  | false=>
   rw [hrc] at hp
   rcases hV with ⟨rfl,rfl⟩ | ⟨K,hK,rfl,oK⟩
   ·simp [s2,s7,s6,o7,s8,hj,ha2,A.cells,hrc,w1]
    refine ⟨by simp [room],m - 1,by omega,j + 1,[-1],by omega,by simpa using hp,by simp at hal;simp;omega,⟨by simp [s2],by simp [s7],by simp [s6],by simp [o6]⟩,by simp,_,by simp;rfl,?_⟩
    exact .inr ⟨1104033,by simp,by simp,by simp [ic]⟩
   ·simp at hK
    rcases hK with rfl | rfl
    ·simp [s2,s7,s6,o7,oK,s8,hj,ha2,A.cells,hrc,w1]
     refine ⟨by simp [room],by simp [room];omega,m - 1,by omega,j + 1,acc ++ [-1],by omega,by simpa using hp,by simp [hal],⟨by simp [s2],by simp [s7],by simp [s6],by simp [o6]⟩,by simp,_,by simp;rfl,?_⟩
     exact .inr ⟨1104033,by simp,by simp,by simp [ic]⟩
    ·simp [s2,s7,s6,o7,oK,s8,hj,ha2,A.cells,hrc,w1]
     refine ⟨by simp [room],by simp [room];omega,m - 1,by omega,j + 1,acc ++ [-1],by omega,by simpa using hp,by simp [hal],⟨by simp [s2],by simp [s7],by simp [s6],by simp [o6]⟩,by simp,_,by simp;rfl,?_⟩
     exact .inr ⟨1104033,by simp,by simp,by simp [ic]⟩
 ·have:j=l.length:=by omega
  subst this
  simp [argV] at hp
  simp [s2,s8]
  refine hQ _ ⟨by simp [s2],by simp [s7],by simp [s6],by simp [o6]⟩ ⟨V,by simp [o7],?_⟩
  rw [← hp]
  rcases hV with h | ⟨K,hK,e,oK⟩
  ·exact .inl h
  ·exact .inr ⟨K,hK,by simp [e],by simp [oK]⟩
theorem fn1104 (b:B) (base:Int) (l:List A):Fn Tryz.prog 104 [bm b,ib base,ams l] (rpl ⟨b,base,l,0⟩):=by
 refine fn_of (base:=1104000) ok1104 rfl fun σ h0 hr=>?_
 have s0:σ.sl 0=bm b:=h0 0
 have s1:σ.sl 1=.c (.v (.int .i64 base)):=h0 1
 have s2:σ.sl 2=.c (.sl 7 104 (l.map A.cells)):=h0 2
 have hl:=real_ams (hr (ams l) (by simp))
 simp only [bm,B.cells] at s0
 clear h0 hr
 unfold c1104
 simp [s0,s1,s2,-W_block]
 rw [W_block]
 refine loop1104 b base l (by omega) ⟨by simp [s2],by simp,by simp,by simp⟩ (by simp) ⟨_,by simp,.inl ⟨rfl,rfl⟩⟩ fun σ' H hV=>?_
 obtain ⟨q2,q7,q6,p6⟩:=H
 obtain ⟨V,p7,hV⟩:=hV
 have e:(⟨b,base,l,0⟩:PL).vars=argV l 0:=by simp [PL.vars]
 rcases hV with ⟨rfl,h⟩ | ⟨K,hK,rfl,oK⟩
 ·simp [q7,q6,p6,p7,r1104,rpl,PL.rcells,e,h,ic]
 ·simp at hK
  rcases hK with rfl | rfl <;> simp [q7,q6,p6,p7,oK,r1104,rpl,PL.rcells,e]
def VB5 (σ:St) (p:PL) (acc:List Int) (q:Nat):Prop:=
 σ.ob 1145005=some (.box 134 [.sl 6 80 (p.b.sorts.map S.cells),.sl 6 96 (p.b.cons.map K.cells),.v (.int .i64 p.b.elim),.v (.int .i64 p.base),.own q (σ.tg q),.sl 7 104 (p.args.map A.cells)]) ∧ σ.ob q=some (.row 3 1 8 (ic acc))
structure FP5 (p:PL) (n:Nat) (σ:St):Prop where
 s1:σ.sl 1=.c (.v (.int .i64 n))
 s5:σ.sl 5=.c (.ref 1145005 (σ.tg 1145005) 0)
 s4:σ.sl 4=.c (.ref 1145004 (σ.tg 1145004) 0)
 o4:σ.ob 1145004=some (.box 134 [.cap 6 80 [],.cap 6 96 [],.v (.int .i64 0),.v (.int .i64 0),.cap 1 8 [],.cap 7 104 []])
def J1145 (p:PL) (n:Nat) (m:Nat) (σ:St):Prop:=∃ (j K:Nat),j + m=n ∧ (K=1145300 ∨ K=1145020) ∧ FP5 p n σ ∧ σ.sl 6=.c (.v (.int .i64 j)) ∧ VB5 σ p (p.vars ++ List.replicate j (-1)) K
theorem rep_snoc (j:Nat) (l:List Int):l ++ List.replicate j (-1) ++ [-1]=l ++ List.replicate (j + 1) (-1):=by
 rw [List.append_assoc]
 congr 1
 rw [List.replicate_succ']
theorem loop1145 {σ:St} {Q:SEx → St → Prop} (p:PL) (n:Nat) (hb:p.vars.length + n ≤ 10000000000000) (H:FP5 p n σ) (s6:σ.sl 6=.c (.v (.int .i64 (0:Nat)))) (hV:VB5 σ p p.vars 1145300)
  (hQ:∀ σ' K,FP5 p n σ' → (K=1145300 ∨ K=1145020) → VB5 σ' p (p.vars ++ List.replicate n (-1)) K → Q .normal σ'):W Tryz.prog 1145000 (.loop c1145b0) σ (onBlock 0 Q):=by
 refine W_loop (J1145 p n) n ⟨0,1145300,by simp,.inl rfl,H,s6,by simpa using hV⟩ ?_
 clear H s6 hV σ
 rintro m σ ⟨j,K,hm,hK,⟨s1,s5,s4,o4⟩,s6,o5,oK⟩
 unfold c1145b0
 by_cases hj:j < n
 ·have w1:=wrap_succ (i:=j) (by omega)
  have hr:=rep_snoc j p.vars
  generalize hA:p.vars ++ List.replicate j (-1)=A at *
  have hAl:A.length=p.vars.length + j:=by rw [← hA];simp
  rcases hK with rfl | rfl
  ·simp [s1,s5,s4,s6,o5,oK,hj,w1]
   refine ⟨by simp [room],by simp [room];omega,m - 1,by omega,j + 1,1145020,by omega,.inr rfl,⟨by simp [s1],by simp [s5],by simp [s4],by simp [o4]⟩,by simp,by simp,?_⟩
   rw [← hr];simp [ic]
  ·simp [s1,s5,s4,s6,o5,oK,hj,w1]
   refine ⟨by simp [room],by simp [room];omega,m - 1,by omega,j + 1,1145020,by omega,.inr rfl,⟨by simp [s1],by simp [s5],by simp [s4],by simp [o4]⟩,by simp,by simp,?_⟩
   rw [← hr];simp [ic]
 ·have:j=n:=by omega
  subst this
  simp [s1,s6]
  exact hQ _ K ⟨by simp [s1],by simp [s5],by simp [s4],by simp [o4]⟩ hK ⟨by simp [o5],by simp [oK]⟩
@[simp] theorem inn_b (p:PL) (n:Nat):(p.inn n).b=p.b:=rfl
@[simp] theorem inn_base (p:PL) (n:Nat):(p.inn n).base=p.base:=rfl
@[simp] theorem inn_args (p:PL) (n:Nat):(p.inn n).args=p.args:=rfl
theorem fn1145 (p:PL) (n:Nat) (hn:n ≤ 1000000000000) (hm:p.more ≤ 1000000000000):Fn Tryz.prog 145 [rpl p,ib n] (rpl (p.inn n)):=by
 refine fn_of (base:=1145000) ok1145 rfl fun σ h0 hr=>?_
 have s0:σ.sl 0=rpl p:=h0 0
 have s1:σ.sl 1=.c (.v (.int .i64 n)):=h0 1
 have hl:p.args.length * 104 ≤ 140737488355328:=by
  have:=real_cell (hr (rpl p) (by simp)) (show .sl 7 104 (p.args.map A.cells) ∈ p.rcells by simp [PL.rcells]);simpa [room] using this
 have hvl:=vars_len p
 simp only [rpl,PL.rcells] at s0
 clear h0 hr
 unfold c1145
 simp [s0,s1,-W_block]
 refine ECall.new 1145300 (sp1020 p.vars) rfl rfl (by simp [is,ic]) (by simp) fun hx=>?_
 clear hx
 simp [-W_block]
 rw [W_block]
 refine loop1145 p n (by omega) ⟨by simp [s1],by simp,by simp,by simp⟩ (by simp) ⟨by simp,by simp⟩ fun σ' K H hK hV=>?_
 obtain ⟨q1,q5,q4,p4⟩:=H
 obtain ⟨p5,pK⟩:=hV
 have e:(p.inn n).vars=p.vars ++ List.replicate n (-1):=by
  simp only [PL.vars,PL.inn]
  rw [List.append_assoc,List.replicate_append_replicate]
 rcases hK with rfl | rfl <;> simp [q4,q5,p4,p5,pK,r1145,rpl,PL.rcells,e]
end Go.Abs

namespace Go.Abs
open Go.Proofs
def w1148:List (List Nat):=[[],[],[],[],[],[],[],[],[1148033,1148300],[1148002],[]]
def f1148:List (List Nat):=[[1148033,1148300],[],[],[],[],[],[],[],[],[],[]]
theorem spA148 (k n:Int) (ts:List T) (h:(T.mk k n ts).two 6=false):SpecNew Tryz.prog 148 [tm (.mk k n ts)] (.tup [.agg [.v (.int .i64 k),.v (.int .i64 n),.sl 3 40 (ts.map T.cells)],.c (.cap 3 40 [])]) (.box 63 (T.mk k n ts).cells):=by
 refine new_of (base:=1148000) 1148001 ok1148 rfl rfl (by simp [Obj.keys,cells_mk,keysCs,Cell.keys]) fun σ h0 hr=>?_
 have s0:σ.sl 0=tm (.mk k n ts):=h0 0
 simp only [tm,cells_mk] at s0
 clear h0 hr
 unfold c1148
 by_cases c1:k=6
 ·have c2:¬ ts.length=2:=fun e=>by simp [T.two,T.kind,T.kids,c1,e] at h
  have c2':¬ (ts.length:Int)=2:=by omega
  simp [s0,c1,c2,c2']
  refine ECall.fn (fn19 (.mk 6 n ts)) (by simp [tm,cells_mk]) (by simp) rfl fun hx=>?_
  simp [tm,cells_mk]
  refine ⟨_,.refl _,?_,?_,?_⟩
  ·simp [r1148]
  ·simp [resN,resLN,rrEvN,r1148]
  ·simp
 ·simp [s0,c1]
  refine ECall.fn (fn19 (.mk k n ts)) (by simp [tm,cells_mk]) (by simp) rfl fun hx=>?_
  simp [tm,cells_mk]
  refine ⟨_,.refl _,?_,?_,?_⟩
  ·simp [r1148]
  ·simp [resN,resLN,rrEvN,r1148]
  ·simp
theorem split_len (t:T):t.split.2.length ≤ t.count:=by
 induction t using T.ind with
 | h k n ts ih=>
 match ts,ih with
 | [],_=>rw [T.split] <;> simp
 | [_],_=>rw [T.split] <;> simp
 | [f,a],ih=>
  rw [T.split]
  have:=ih f (by simp)
  split
  ·simp [T.count,T.countL];omega
  ·simp
 | _ :: _ :: _ :: _,_=>rw [T.split] <;> simp
theorem spB148:∀ (m:Nat) (f:T),f.count ≤ m → m ≤ 1048576 → ∀ (n:Int) (a:T),SpecNew Tryz.prog 148 [tm (.mk 6 n [f,a])] (.tup [.agg [.v (.int .i64 (T.mk 6 n [f,a]).split.1.kind),.v (.int .i64 (T.mk 6 n [f,a]).split.1.val),.sl 3 40 ((T.mk 6 n [f,a]).split.1.kids.map T.cells)],.c (.own 0 0)]) (.row 63 3 40 ((T.mk 6 n [f,a]).split.2.map T.cells)):=by
 intro m
 induction m with
 | zero=>intro f hf;obtain ⟨k,n,ts⟩:=f;simp [T.count] at hf
 | succ m ih'=>
 intro f hf hm n a
 have ih:∀ g:T,g.count < f.count → ∀ n a,SpecNew Tryz.prog 148 [tm (.mk 6 n [g,a])] (.tup [.agg [.v (.int .i64 (T.mk 6 n [g,a]).split.1.kind),.v (.int .i64 (T.mk 6 n [g,a]).split.1.val),.sl 3 40 ((T.mk 6 n [g,a]).split.1.kids.map T.cells)],.c (.own 0 0)]) (.row 63 3 40 ((T.mk 6 n [g,a]).split.2.map T.cells)):=fun g hg=>ih' g (by omega) (by omega)
 refine new_of (base:=1148000) 1148033 ok1148 rfl rfl rfl fun σ h0 hr=>?_
 have s0:σ.sl 0=tm (.mk 6 n [f,a]):=h0 0
 simp only [tm,cells_mk] at s0
 clear h0 hr
 unfold c1148
 simp [s0,cells_eq f]
 cases h2:f.two 6 with
 | false=>
  rw [split_app,split_no h2]
  obtain ⟨fk,fn,fs⟩:=f
  refine ECall.new 1148300 (spA148 fk fn fs h2) rfl (by simp [Obj.keys,cells_mk,keysCs,Cell.keys]) (by simp [tm,cells_mk,T.kind,T.val,T.kids]) (by simp) fun hx=>?_
  clear hx
  simp [s0]
  refine W_dregD w1148 f1148 (by decide) ?_
  unfold w1148 f1148
  simp [s0,cells_eq a]
  refine CallD.fn (fn19 a) (by simp [tm,cells_eq]) (by simp) (by rw [tm,cells_eq];rfl) (by simp) ?_
  simp [tm,cells_eq a]
  refine ⟨by simp [room],realC_n ?_⟩
  simp
  refine ⟨_,.refl _,?_,?_,?_⟩
  ·simp [r1148]
  ·simp [resN,resLN,rrEvN,r1148,T.kind,T.val,T.kids]
  ·simp [cells_eq]
 | true=>
  obtain ⟨fn,g,b,rfl⟩:=two_is h2
  have hc:(T.mk 6 fn [g,b]).count=g.count + b.count + 1:=by simp [T.count,T.countL]
  have hlen:=split_len (T.mk 6 fn [g,b])
  have ihg:=ih g (by omega) fn b
  rw [split_app n (T.mk 6 fn [g,b]) a]
  generalize (T.mk 6 fn [g,b]).split=x at *
  refine ECall.new 1148300 ihg rfl rfl (by simp [tm,cells_mk,T.kind,T.val,T.kids]) (by simp) fun hx=>?_
  clear hx
  simp [s0]
  refine W_dregD w1148 f1148 (by decide) ?_
  unfold w1148 f1148
  simp [s0,cells_eq a]
  refine CallD.fn (fn19 a) (by simp [tm,cells_eq]) (by simp) (by rw [tm,cells_eq];rfl) (by simp) ?_
  simp [tm,cells_eq a]
  refine ⟨by simp [room],by simp [room];omega,realC_n ?_⟩
  simp
  refine ⟨_,.refl _,?_,?_,?_⟩
  ·simp [r1148]
  ·simp [resN,resLN,rrEvN,r1148]
  ·simp [cells_eq]
theorem fn1148 (t:T) (ht:t.count ≤ 1048576):Fn Tryz.prog 148 [tm t] (.tup [tm t.split.1,tms t.split.2]):=by
 cases h2t:t.two 6 with
 | false=>
  rw [split_no h2t]
  obtain ⟨k,n,ts⟩:=t
  refine fn_of (base:=1148000) ok1148 rfl fun σ h0 hr=>?_
  have s0:σ.sl 0=tm (.mk k n ts):=h0 0
  simp only [tm,cells_mk] at s0
  clear h0 hr
  unfold c1148
  by_cases c1:k=6
  ·have c2:¬ ts.length=2:=fun e=>by simp [T.two,T.kind,T.kids,c1,e] at h2t
   have c2':¬ (ts.length:Int)=2:=by omega
   simp [s0,c1,c2,c2']
   refine ECall.fn (fn19 (.mk 6 n ts)) (by simp [tm,cells_mk]) (by simp) rfl fun hx=>?_
   simp [tm,tms,cells_mk,r1148]
  ·simp [s0,c1]
   refine ECall.fn (fn19 (.mk k n ts)) (by simp [tm,cells_mk]) (by simp) rfl fun hx=>?_
   simp [tm,tms,cells_mk,r1148]
 | true=>
 obtain ⟨n,f,a,rfl⟩:=two_is h2t
 have hcf:(T.mk 6 n [f,a]).count=f.count + a.count + 1:=by simp [T.count,T.countL]
 have ih:∀ g:T,g.count < f.count → ∀ n a,SpecNew Tryz.prog 148 [tm (.mk 6 n [g,a])] (.tup [.agg [.v (.int .i64 (T.mk 6 n [g,a]).split.1.kind),.v (.int .i64 (T.mk 6 n [g,a]).split.1.val),.sl 3 40 ((T.mk 6 n [g,a]).split.1.kids.map T.cells)],.c (.own 0 0)]) (.row 63 3 40 ((T.mk 6 n [g,a]).split.2.map T.cells)):=fun g hg=>spB148 g.count g (Nat.le_refl _) (by omega)
 refine fn_of (base:=1148000) ok1148 rfl fun σ h0 hr=>?_
 have s0:σ.sl 0=tm (.mk 6 n [f,a]):=h0 0
 simp only [tm,cells_mk] at s0
 clear h0 hr
 unfold c1148
 simp [s0,cells_eq f]
 cases h2:f.two 6 with
 | false=>
  rw [split_app,split_no h2]
  obtain ⟨fk,fn,fs⟩:=f
  refine ECall.new 1148300 (spA148 fk fn fs h2) rfl (by simp [Obj.keys,cells_mk,keysCs,Cell.keys]) (by simp [tm,cells_mk,T.kind,T.val,T.kids]) (by simp) fun hx=>?_
  clear hx
  simp [s0]
  refine W_dregD w1148 f1148 (by decide) ?_
  unfold w1148 f1148
  simp [s0,cells_eq a]
  refine CallD.fn (fn19 a) (by simp [tm,cells_eq]) (by simp) (by rw [tm,cells_eq];rfl) (by simp) ?_
  simp [tm,cells_eq a]
  refine ⟨by simp [room],realC_n ?_⟩
  simp
  simp [r1148,tm,tms,cells_eq,cells_mk,T.kind,T.val,T.kids]
 | true=>
  obtain ⟨fn,g,b,rfl⟩:=two_is h2
  have hc:(T.mk 6 fn [g,b]).count=g.count + b.count + 1:=by simp [T.count,T.countL]
  have hlen:=split_len (T.mk 6 fn [g,b])
  have ihg:=ih g (by omega) fn b
  rw [split_app n (T.mk 6 fn [g,b]) a]
  generalize (T.mk 6 fn [g,b]).split=x at *
  refine ECall.new 1148300 ihg rfl rfl (by simp [tm,cells_mk,T.kind,T.val,T.kids]) (by simp) fun hx=>?_
  clear hx
  simp [s0]
  refine W_dregD w1148 f1148 (by decide) ?_
  unfold w1148 f1148
  simp [s0,cells_eq a]
  refine CallD.fn (fn19 a) (by simp [tm,cells_eq]) (by simp) (by rw [tm,cells_eq];rfl) (by simp) ?_
  simp [tm,cells_eq a]
  refine ⟨by simp [room],by simp [room];omega,realC_n ?_⟩
  simp
  simp [r1148,tm,tms,cells_eq]
end Go.Abs

namespace Go.Abs
open Go.Proofs
theorem formed_val {t:T} (h:t.formed=true):0 ≤ t.val:=by
 obtain ⟨k,n,ts⟩:=t
 simp only [T.formed,Bool.and_eq_true,Bool.not_eq_true'] at h
 have h1:=h.1
 have:¬ (badHead k n ts.length=true):=by simp [h1]
 rw [bad_iff] at this
 simp only [Classical.not_not] at this
 exact this.2.1
theorem formed_kids {k n:Int} {ts:List T} (h:(T.mk k n ts).formed=true):∀ t,t ∈ ts → t.formed=true:=by
 simp only [T.formed,Bool.and_eq_true] at h
 have h2:=h.2
 rw [formedL_all] at h2
 exact fun t ht=>List.all_eq_true.1 h2 t ht
theorem split_formed {t:T} (h:t.formed=true):t.split.1.formed=true ∧ ∀ x,x ∈ t.split.2 → x.formed=true:=by
 induction t using T.ind with
 | h k n ts ih=>
 cases h2:(T.mk k n ts).two 6 with
 | false=>rw [split_no h2];exact ⟨h,by simp⟩
 | true=>
  obtain ⟨n',f,a,e⟩:=two_is h2
  cases e
  rw [split_app]
  have hf:=formed_kids h f (by simp)
  have ha:=formed_kids h a (by simp)
  obtain ⟨q1,q2⟩:=ih f (by simp) hf
  refine ⟨q1,fun x hx=>?_⟩
  rcases List.mem_append.1 hx with hx | hx
  ·exact q2 x hx
  ·simp at hx;subst hx;exact ha
theorem inn_zero (p:PL):p.inn 0=p:=rfl
theorem spine_bad:∀ (f:Nat) (p:PL) (t:T),t.split.1.kind=3 → (p.b.ofK p.base t.split.1.val).1=4 → t.split.2.length ≤ (sIdx p.b (p.b.ofK p.base t.split.1.val).2).length → cleanF f p t=false
 | 0,_,_,_,_,_=>rfl
 | f + 1,p,t,h1,h2,h3=>by
  cases ht:t.two 6 with
  | false=>
   rw [split_no ht] at h1 h2
   simp only at h1 h2
   rw [cleanF,if_neg (by omega),if_pos h1,h2]
   rfl
  | true=>
   obtain ⟨n,g,a,rfl⟩:=two_is ht
   have hd:decG (cleanF f p) p (.mk 6 n [g,a])=false:=by
    unfold decG
    split
    ·rfl
    ·rw [if_pos (.inr (by omega))]
   rw [split_app] at h1 h2 h3
   simp only [List.length_append,List.length_singleton] at h3
   have ih:=spine_bad f p g h1 h2 (by omega)
   have e1:(T.mk 6 n [g,a]).kind=6:=rfl
   have e2:(T.mk 6 n [g,a]).kids=[g,a]:=rfl
   rw [cleanF,if_neg (by rw [e1];omega),if_neg (by rw [e1];omega),hd,e1,e2,kidsG]
   have e3:(bindsOf 6 ((0:Nat):Int)).toNat=0:=by decide
   have e4:(bindsOf 6 0).toNat=0:=by decide
   simp only [e3,e4,inn_zero,ih]
   simp
def decP (p:PL) (t:T):Bool:=decide (t.split.1.kind=3) && (decide (0 < t.split.2.length) && (decide ((p.b.ofK p.base t.split.1.val).1=4) && decide (t.split.2.length=(sIdx p.b (p.b.ofK p.base t.split.1.val).2).length + 1)))
def dec2 (cl:T → Bool) (p:PL) (l:List T):Bool:=(l.take (l.length - 1)).all cl && match l[l.length - 1]? with
 | some x=>(p.guarded x.split.1).2 && x.split.2.all cl
 | none=>false
theorem clean_dec (f:Nat) (p:PL) (t:T) (h:decP p t=true) (h1:t.kind ≠ 1) (h3:t.kind ≠ 3):cleanF (f + 1) p t=dec2 (cleanF f p) p t.split.2:=by
 simp only [decP,Bool.and_eq_true,decide_eq_true_eq] at h
 obtain ⟨k1,k2,k3,k4⟩:=h
 cases ht:t.two 6 with
 | false=>rw [split_no ht] at k2;simp at k2
 | true=>
  obtain ⟨n,g,a,rfl⟩:=two_is ht
  have hb:cleanF f p g=false:=by
   rw [split_app] at k1 k3 k4
   simp only [List.length_append,List.length_singleton] at k4
   exact spine_bad f p g k1 k3 (by omega)
  have e1:(T.mk 6 n [g,a]).kind=6:=rfl
  have e2:(T.mk 6 n [g,a]).kids=[g,a]:=rfl
  rw [cleanF,if_neg h1,if_neg h3,e1,e2,kidsG]
  have e4:(bindsOf 6 ((0:Nat):Int)).toNat=0:=by decide
  have e4':(bindsOf 6 0).toNat=0:=by decide
  simp only [e4,e4',inn_zero,hb]
  unfold decG dec2
  rw [if_neg (by omega),if_neg (by simp [k3,k4])]
  cases (T.mk 6 n [g,a]).split.2[(T.mk 6 n [g,a]).split.2.length - 1]? with
  | none=>simp
  | some x=>
   simp only [decide_true,Bool.true_and,Bool.false_and,Bool.or_false]
   generalize (List.take _ _).all _=u
   generalize (p.guarded _).2=v
   generalize List.all _ _=w
   cases u <;> cases v <;> cases w <;> rfl
theorem clean_kids (f:Nat) (p:PL) (t:T) (h:decP p t=false) (h1:t.kind ≠ 1) (h3:t.kind ≠ 3):cleanF (f + 1) p t=kidsG (cleanF f) p t.kind t.kids 0:=by
 have hd:decG (cleanF f p) p t=false:=by
  unfold decG
  by_cases k1:t.split.1.kind=3
  ·rw [if_neg (by omega)]
   by_cases k2:(p.b.ofK p.base t.split.1.val).1=4
   ·by_cases k3:t.split.2.length=(sIdx p.b (p.b.ofK p.base t.split.1.val).2).length + 1
    ·exfalso
     simp [decP,k1,k2,k3] at h
    ·rw [if_pos (.inr k3)]
   ·rw [if_pos (.inl k2)]
  ·rw [if_pos k1]
 rw [cleanF,if_neg h1,if_neg h3,hd]
 simp
theorem guarded_kind {p:PL} {t:T} (h:t.kind ≠ 1):(p.guarded t).2=false:=by
 unfold PL.guarded
 rw [if_neg (fun e=>h e.1)]
structure FD2 (p:PL) (l:List T) (σ:St):Prop where
 s1:σ.sl 1=.c (.sl 3 40 (l.map T.cells))
 s2:σ.sl 2=.c (.ref 1149002 (σ.tg 1149002) 0)
 o2:σ.ob 1149002=some (.box 134 p.rcells)
def J1149a (p:PL) (l:List T) (cl:T → Bool) (m:Nat) (σ:St):Prop:=∃ j:Nat,j + m=l.length - 1 ∧ ((l.take (l.length - 1)).drop j).all cl=(l.take (l.length - 1)).all cl ∧ FD2 p l σ ∧ σ.sl 5=.c (.v (.int .i64 j))
theorem loop1149a {σ:St} {Q:SEx → St → Prop} (p:PL) (l:List T) (cl:T → Bool) (h0:0 < l.length) (hl:l.length ≤ 1000000) (hcl:∀ x,x ∈ l → Fn Tryz.prog 105 [rpl p,tm x] (bb (cl x))) (H:FD2 p l σ) (s5:σ.sl 5=.c (.v (.int .i64 (0:Nat))))
  (hR:∀ σ',(l.take (l.length - 1)).all cl=false → σ'.sl 4=bb false → Q .ret σ') (hQ:∀ σ',(l.take (l.length - 1)).all cl=true → FD2 p l σ' → Q .normal σ'):W Tryz.prog 1149000 (.loop c1149b0) σ (onBlock 0 Q):=by
 refine W_loop (J1149a p l cl) (l.length - 1) ⟨0,by simp,by simp,H,s5⟩ ?_
 clear H s5 σ
 rintro m σ ⟨j,hm,hp,⟨s1,s2,o2⟩,s5⟩
 simp only [PL.rcells] at o2
 have w0:IntKind.wrap .i64 ((l.length:Int) - 1)=((l.length - 1:Nat):Int):=by rw [wrap_id (by omega) (by omega)];omega
 unfold c1149b0
 by_cases hj:j < l.length - 1
 ·have w1:=wrap_succ (i:=j) (by omega)
  have hj2:j < l.length:=by omega
  have hj3:(j:Int) < ((l.length - 1:Nat):Int):=by omega
  obtain ⟨x,hx1⟩:=at_of hj2
  obtain ⟨_,hx2⟩:=getE hx1
  have hx3:(l.take (l.length - 1))[j]? = some x:=by rw [List.getElem?_take,if_pos hj,hx1]
  rw [drop_at hx3,List.all_cons] at hp
  simp [s1,s2,o2,s5,w0,hj3]
  refine W_dregA ?_
  simp [s1,s2,o2,s5,hj2,hx2,cells_eq x]
  refine CallA.fn (hcl x (List.mem_of_getElem? hx1)) (by simp [rpl,PL.rcells,tm,cells_eq]) (by simp) rfl ?_
  cases hin:cl x with
  | false=>
   rw [hin] at hp
   simp [bb]
   refine realC_n ?_
   simp
   exact hR _ (by simpa using hp.symm) (by simp [bb])
  | true=>
   rw [hin] at hp
   simp [bb]
   refine realC_n ?_
   simp [s5,w1]
   exact ⟨m - 1,by omega,j + 1,by omega,by simpa using hp,⟨by simp [s1],by simp [s2],by simp [o2,PL.rcells]⟩,by simp⟩
 ·have:j=l.length - 1:=by omega
  subst this
  have hj3:¬ ((l.length - 1:Nat):Int) < ((l.length - 1:Nat):Int):=by omega
  simp [s1,s2,o2,s5,w0]
  exact hQ _ (by rw [← hp];simp) ⟨by simp [s1],by simp [s2],by simp [o2,PL.rcells]⟩
structure FD3 (p:PL) (us:List T) (σ:St):Prop where
 s7:σ.sl 7=.c (.sl 3 40 (us.map T.cells))
 s2:σ.sl 2=.c (.ref 1149002 (σ.tg 1149002) 0)
 o2:σ.ob 1149002=some (.box 134 p.rcells)
def J1149b (p:PL) (us:List T) (cl:T → Bool) (m:Nat) (σ:St):Prop:=∃ j:Nat,j + m=us.length ∧ (us.drop j).all cl=us.all cl ∧ FD3 p us σ ∧ σ.sl 8=.c (.v (.int .i64 j))
theorem loop1149b {σ:St} {Q:SEx → St → Prop} (p:PL) (us:List T) (cl:T → Bool) (hl:us.length ≤ 10000000) (hcl:∀ x,x ∈ us → Fn Tryz.prog 105 [rpl p,tm x] (bb (cl x))) (H:FD3 p us σ) (s8:σ.sl 8=.c (.v (.int .i64 (0:Nat))))
  (hR:∀ σ',us.all cl=false → σ'.sl 4=bb false → Q .ret σ') (hQ:∀ σ',us.all cl=true → Q .normal σ'):W Tryz.prog 1149000 (.loop c1149b1) σ (onBlock 2 Q):=by
 refine W_loop (J1149b p us cl) us.length ⟨0,by simp,by simp,H,s8⟩ ?_
 clear H s8 σ
 rintro m σ ⟨j,hm,hp,⟨s7,s2,o2⟩,s8⟩
 simp only [PL.rcells] at o2
 unfold c1149b1
 by_cases hj:j < us.length
 ·have w1:=wrap_succ (i:=j) (by omega)
  obtain ⟨x,hx1⟩:=at_of hj
  obtain ⟨_,hx2⟩:=getE hx1
  rw [drop_at hx1,List.all_cons] at hp
  simp [s7,s2,o2,s8,hj]
  refine W_dregA ?_
  simp [s7,s2,o2,s8,hj,hx2,cells_eq x]
  refine CallA.fn (hcl x (List.mem_of_getElem? hx1)) (by simp [rpl,PL.rcells,tm,cells_eq]) (by simp) rfl ?_
  cases hin:cl x with
  | false=>
   rw [hin] at hp
   simp [bb]
   refine realC_n ?_
   simp
   exact hR _ (by simpa using hp.symm) (by simp [bb])
  | true=>
   rw [hin] at hp
   simp [bb]
   refine realC_n ?_
   simp [s8,w1]
   exact ⟨m - 1,by omega,j + 1,by omega,by simpa using hp,⟨by simp [s7],by simp [s2],by simp [o2,PL.rcells]⟩,by simp⟩
 ·have:j=us.length:=by omega
  subst this
  simp [s7,s2,o2,s8]
  exact hQ _ (by rw [← hp];simp)
theorem fn1149 (p:PL) (l:List T) (cl:T → Bool) (h0:0 < l.length) (hl:l.length ≤ 1000000) (hcl:∀ x,x ∈ l → Fn Tryz.prog 105 [rpl p,tm x] (bb (cl x))) (hc:∀ x,x ∈ l → x.count ≤ 1048576 ∧ x.formed=true) (hcl2:∀ x,x ∈ l → ∀ y,y ∈ x.split.2 → Fn Tryz.prog 105 [rpl p,tm y] (bb (cl y))):Fn Tryz.prog 149 [rpl p,tms l] (bb (dec2 cl p l)):=by
 refine fn_of (base:=1149000) ok1149 rfl fun σ h0' hr=>?_
 have s0:σ.sl 0=rpl p:=h0' 0
 have s1:σ.sl 1=.c (.sl 3 40 (l.map T.cells)):=h0' 1
 simp only [rpl,PL.rcells] at s0
 clear h0' hr
 obtain ⟨x,hx⟩:=at_of (ts:=l) (i:=l.length - 1) (by omega)
 obtain ⟨hxl,hx2⟩:=getE hx
 have hxm:=List.mem_of_getElem? hx
 obtain ⟨hxc,hxf⟩:=hc x hxm
 have w0:IntKind.wrap .i64 ((l.length:Int) - 1)=((l.length - 1:Nat):Int):=by rw [wrap_id (by omega) (by omega)];omega
 have hsl:=split_len x
 have hsf:=split_formed hxf
 unfold c1149
 simp [s0,s1,-W_block]
 rw [W_block]
 refine loop1149a p l cl h0 hl hcl ⟨by simp [s1],by simp,by simp [PL.rcells]⟩ (by simp) (fun σ' e q4=>?_) fun σ' e H=>?_
 ·simp [q4,r1149,bb,dec2,e]
 obtain ⟨q1,q2,p2⟩:=H
 simp only [PL.rcells] at p2
 have hd:dec2 cl p l=((p.guarded x.split.1).2 && x.split.2.all cl):=by simp only [dec2,e,hx,Bool.true_and]
 have hcl3:=hcl2 x hxm
 simp [q1,q2,p2,w0,hxl,hx2,cells_eq x]
 refine ECall.fn (fn1148 x hxc) (by simp [tm,cells_eq]) (by simp) (keys_tt _ _) fun hz=>?_
 clear hz
 generalize x.split.1=g at *
 generalize x.split.2=us at *
 simp [tm,tms,cells_eq g]
 by_cases k1:g.kind=1
 ·have hg:=gvar_guarded p g k1 (formed_val hsf.1)
  simp [k1,q2,p2]
  refine GCall.fn (fun _=>fn1146 p g.val (formed_val hsf.1)) (by simp [rpl,PL.rcells,ib]) (by simp) rfl fun hz=>?_
  clear hz
  by_cases k2:gvar p g.val < 0
  ·have h2:(p.guarded g).2=false:=by rw [hg.1];simp;omega
   simp [ib,k2,r1149,bb,hd,h2]
  ·have h2:(p.guarded g).2=true:=by rw [hg.1];simp;omega
   simp [ib,k2,-W_block]
   rw [W_block]
   refine loop1149b p us cl (by omega) hcl3 ⟨by simp,by simp [q2],by simp [p2,PL.rcells]⟩ (by simp) (fun σ2 e2 q4=>?_) fun σ2 e2=>?_
   ·simp [q4,r1149,bb,hd,h2,e2]
   ·simp [r1149,bb,hd,h2,e2]
 ·have h2:=guarded_kind (p:=p) k1
  simp [k1,q2,p2]
  refine GCall.fn (res:=ib 0) (fun h=>by cases h) rfl (by simp) rfl fun hz=>?_
  simp [ib,r1149,bb,hd,h2]
end Go.Abs

namespace Go.Abs
open Go.Proofs
theorem keys_rpl (p:PL):(rpl p).keys2=[]:=by simp [AV.keys2,AV.keys1,rpl,PL.rcells,keysCs,Cell.keys]
structure FC2 (p:PL) (t:T) (σ:St):Prop where
 s2:σ.sl 2=.c (.ref 1105002 (σ.tg 1105002) 0)
 o2:σ.ob 1105002=some (.box 134 p.rcells)
 s3:σ.sl 3=.c (.ref 1105003 (σ.tg 1105003) 0)
 o3:σ.ob 1105003=some (.box 63 t.cells)
def J1105 (p:PL) (k n:Int) (ts:List T) (cl:PL → T → Bool) (m:Nat) (σ:St):Prop:=∃ i:Nat,i + m=ts.length ∧ kidsG cl p k (ts.drop i) i=kidsG cl p k ts 0 ∧ FC2 p (.mk k n ts) σ ∧ σ.sl 11=.c (.v (.int .i64 i))
theorem loop1105 {σ:St} {Q:SEx → St → Prop} (p:PL) (k n:Int) (ts:List T) (cl:PL → T → Bool) (hl:ts.length ≤ 1048576) (hm:p.more ≤ 900000000) (h:∀ t,t ∈ ts → ∀ i,Fn Tryz.prog 105 [rpl (p.inn (bindsOf k i).toNat),tm t] (bb (cl (p.inn (bindsOf k i).toNat) t))) (H:FC2 p (.mk k n ts) σ) (s11:σ.sl 11=.c (.v (.int .i64 (0:Nat))))
  (hR:∀ σ',kidsG cl p k ts 0=false → σ'.sl 4=bb false → Q .ret σ') (hQ:∀ σ',kidsG cl p k ts 0=true → Q .normal σ'):W Tryz.prog 1105000 (.loop c1105b0) σ (onBlock 0 Q):=by
 refine W_loop (J1105 p k n ts cl) ts.length ⟨0,by simp,by simp,H,s11⟩ ?_
 clear H s11 σ
 rintro m σ ⟨i,hm2,hp,⟨s2,o2,s3,o3⟩,s11⟩
 rw [cells_mk] at o3
 simp only [PL.rcells] at o2
 unfold c1105b0
 by_cases hi:i < ts.length
 ·have w1:=wrap_succ (i:=i) (by omega)
  obtain ⟨t,ht⟩:=at_of hi
  obtain ⟨_,ht2⟩:=getE ht
  obtain ⟨b1,b2⟩:=binds_nat k i
  rw [drop_at ht,kidsG] at hp
  have hcall:=h t (List.mem_of_getElem? ht) i
  have hinn:=fn1145 p (bindsOf k i).toNat (by omega) (by omega)
  rw [← b1] at hinn
  simp [s2,s3,o2,o3,s11,hi]
  refine W_dregA ?_
  simp [s2,s3,o2,o3,s11,hi]
  refine CallA.fn (fn51 k i) (by simp [ib]) (by simp) rfl ?_
  simp [ib]
  refine CallA.fn hinn (by simp [rpl,PL.rcells,ib]) (by simp) (keys_rpl _) ?_
  simp [s2,s3,o2,o3,s11,hi,ht2,cells_eq t,rpl,PL.rcells]
  refine CallA.fn hcall (by simp [rpl,PL.rcells,tm,cells_eq t]) (by simp) rfl ?_
  cases hc:cl (p.inn (bindsOf k i).toNat) t with
  | false=>
   rw [hc] at hp
   simp [bb]
   refine realC_n ?_
   simp
   exact hR _ (by simpa using hp.symm) (by simp [bb])
  | true=>
   rw [hc] at hp
   simp [bb]
   refine realC_n ?_
   simp [s11,w1]
   exact ⟨m - 1,by omega,i + 1,by omega,by simpa using hp,⟨by simp [s2],by simp [o2,PL.rcells],by simp [s3],by simp [o3,cells_mk]⟩,by simp⟩
 ·have:i=ts.length:=by omega
  subst this
  simp [kidsG] at hp
  simp [s3,o3,s11]
  exact hQ _ hp
theorem fn1105:∀ (f:Nat) (p:PL),p.b.Fit → ∀ (t:T),t.count ≤ f → t.count ≤ 1048576 → p.more + t.count ≤ 100000000 → t.formed=true → Fn Tryz.prog 105 [rpl p,tm t] (bb (cleanF f p t))
 | 0,p,hb,t,hf,_,_,_=>by obtain ⟨k,n,ts⟩:=t;simp [T.count] at hf
 | f + 1,p,hb,t,hf,hc,hm,hw=>by
  have ih:=fn1105 f
  refine fn_of (base:=1105000) ok1105 rfl fun σ h0 hr=>?_
  have s0:σ.sl 0=rpl p:=h0 0
  have s1:σ.sl 1=tm t:=h0 1
  simp only [rpl,PL.rcells] at s0
  obtain ⟨k,n,ts⟩:=t
  rw [tm,cells_mk] at s1
  clear h0 hr
  have hn0:0 ≤ n:=formed_val hw
  have hck:(T.mk k n ts).count=T.countL ts + 1:=by simp [T.count]
  have hcl:=countL_len ts
  unfold c1105
  by_cases k1:k=1
  ·subst k1
   have hg:=gvar_guarded p (.mk 1 n ts) rfl hn0
   have hdef:cleanF (f + 1) p (.mk 1 n ts)=!(p.guarded (.mk 1 n ts)).2:=by rw [cleanF,if_pos (show (T.mk 1 n ts).kind=1 from rfl)]
   simp [s0,s1]
   refine ECall.fn (fn1146 p n hn0) (by simp [rpl,PL.rcells,ib]) (by simp) rfl fun _=>?_
   rw [hdef,hg.1]
   by_cases k2:gvar p n < 0
   ·have k2':¬ 0 ≤ gvar p n:=by omega
    simp [ib,k2,k2',r1105,bb,T.val]
   ·have k2':0 ≤ gvar p n:=by omega
    simp [ib,k2,k2',r1105,bb,T.val]
  ·by_cases k3:k=3
   ·subst k3
    have hdef:cleanF (f + 1) p (.mk 3 n ts)=decide ((p.b.ofK p.base n).1=0):=by rw [cleanF,if_neg (show ¬ (T.mk 3 n ts).kind=1 from k1),if_pos (show (T.mk 3 n ts).kind=3 from rfl)];rfl
    simp [s0,s1]
    refine ECall.fn (fn1147 p.b p.base n hn0) (by simp [bm,B.cells,ib]) (by simp) (keys_ii _ _) fun _=>?_
    rw [hdef]
    generalize p.b.ofK p.base n=q
    obtain ⟨q1,q2⟩:=q
    by_cases c:q1=0 <;> simp [ib,c,r1105,bb]
   ·have hsl:=split_len (.mk k n ts)
    have hsf:=split_formed hw
    obtain ⟨f1,f2,f3⟩:=split_facts (T.mk k n ts).count (.mk k n ts) (Nat.le_refl _)
    have hkids:∀ t,t ∈ ts → ∀ i,Fn Tryz.prog 105 [rpl (p.inn (bindsOf k i).toNat),tm t] (bb (cleanF f (p.inn (bindsOf k i).toNat) t)):=fun t ht i=>by
     obtain ⟨b1,b2⟩:=binds_nat k i
     have h1:=count_mem ht
     refine ih (p.inn (bindsOf k i).toNat) hb t (by omega) (by omega) ?_ (formed_kids hw t ht)
     show p.more + (bindsOf k i).toNat + t.count ≤ 100000000;omega
    have hloop:decP p (.mk k n ts)=false → ∀ {σ:St},FC2 p (.mk k n ts) σ → σ.sl 11=.c (.v (.int .i64 (0:Nat))) → W Tryz.prog 1105000 (.loop c1105b0) σ (onBlock 0 (seqC Tryz.prog 1105000 (.seq (.reg [⟨some 4,none,.mv (.k (.bool true))⟩]) .ret) (onEnd [] r1105 (bb (cleanF (f + 1) p (.mk k n ts))) []))):=fun hd {σ} H s11=>by
     have hdef:=clean_kids f p (.mk k n ts) hd k1 k3
     refine loop1105 p k n ts (cleanF f) (by omega) (by omega) hkids H s11 (fun σ' e q4=>?_) fun σ' e=>?_
     ·simp [q4,r1105,bb,hdef,T.kind,T.kids,e]
     ·simp [r1105,bb,hdef,T.kind,T.kids,e]
    have hdec:=clean_dec f p (.mk k n ts)
    have hds:decP p (.mk k n ts)=decP p (.mk k n ts):=rfl
    conv at hds=>rhs;unfold decP
    have hidx:=fun (j:Nat) (s:S) (h:p.b.sorts[j]? = some s)=>hb.srt s (List.mem_of_getElem? h)
    have hcl3:∀ x,x ∈ (T.mk k n ts).split.2 → Fn Tryz.prog 105 [rpl p,tm x] (bb (cleanF f p x)):=fun x hx=>ih p hb x (by have:=(f3 x hx).1;omega) (by have:=(f3 x hx).1;omega) (by have:=(f3 x hx).1;omega) (hsf.2 x hx)
    have hcl4:∀ x,x ∈ (T.mk k n ts).split.2 → ∀ y,y ∈ x.split.2 → Fn Tryz.prog 105 [rpl p,tm y] (bb (cleanF f p y)):=fun x hx y hy=>by
     have h1:=(f3 x hx).1
     have h2:=((split_facts x.count x (Nat.le_refl _)).2.2 y hy).1
     exact ih p hb y (by omega) (by omega) (by omega) ((split_formed (hsf.2 x hx)).2 y hy)
    have hcc:∀ x,x ∈ (T.mk k n ts).split.2 → x.count ≤ 1048576 ∧ x.formed=true:=fun x hx=>⟨by have:=(f3 x hx).1;omega,hsf.2 x hx⟩
    simp [s0,s1,k1,k3]
    refine ECall.fn (fn1148 (.mk k n ts) hc) (by simp [tm,cells_mk]) (by simp) (keys_tt _ _) fun _=>?_
    generalize (T.mk k n ts).split.1=g at *
    generalize (T.mk k n ts).split.2=l at *
    have fcs:∀ {σ':St},σ'.sl 2=.c (.ref 1105002 (σ'.tg 1105002) 0) → σ'.ob 1105002=some (.box 134 p.rcells) → σ'.sl 3=.c (.ref 1105003 (σ'.tg 1105003) 0) → σ'.ob 1105003=some (.box 63 (T.mk k n ts).cells) → FC2 p (.mk k n ts) σ':=fun a b c d=>⟨a,b,c,d⟩
    simp [tm,tms,cells_eq g]
    by_cases h3:g.kind=3
    case neg=>
     simp [h3]
     refine hloop (by rw [hds];simp [h3]) ⟨by simp,by simp [PL.rcells],by simp,by simp [cells_mk]⟩ (by simp)
    by_cases h4e:l=[]
    ·simp [h3,h4e]
     refine hloop (by rw [hds];simp [h3,h4e]) ⟨by simp,by simp [PL.rcells],by simp,by simp [cells_mk]⟩ (by simp)
    have h4:0 < l.length:=List.length_pos_iff.2 h4e
    simp [h3,h4e,h4]
    refine ECall.fn (fn1147 p.b p.base g.val (formed_val hsf.1)) (by simp [bm,B.cells,ib]) (by simp) (keys_ii _ _) fun _=>?_
    generalize hok:p.b.ofK p.base g.val=kk at *
    obtain ⟨kd,kx⟩:=kk
    simp only [ib]
    by_cases h5:kd=4
    case neg=>
     simp [h5]
     refine hloop (by rw [hds];simp [h5]) ⟨by simp,by simp [PL.rcells],by simp,by simp [cells_mk]⟩ (by simp)
    subst h5
    obtain ⟨j,hj1,hj2⟩:=ofK_dec (b:=p.b) (base:=p.base) (n:=g.val) (by rw [hok])
    rw [hok] at hj1
    simp only at hj1
    subst hj1
    obtain ⟨s,hs⟩:=at_of hj2
    obtain ⟨hjl,hs2⟩:=getE hs
    have hsx:sIdx p.b (j:Int)=s.idx:=by simp [sIdx,hs]
    have hi12:=hidx j s hs
    have w1:=wrap_succ (i:=s.idx.length) (by omega)
    by_cases h6:l.length=s.idx.length + 1
    ·have hdt:decP p (.mk k n ts)=true:=by rw [hds,hsx];simp [h3,h6]
     have h6':(l.length:Int)=((s.idx.length + 1:Nat):Int):=by omega
     have hd2:=hdec hdt k1 k3
     simp [hjl,hs2,S.cells,w1,h6,-Int.natCast_add]
     refine ECall.fn (fn1149 p l (cleanF f p) h4 (by omega) hcl3 hcc hcl4) (by simp [rpl,PL.rcells,tms]) (by simp) rfl fun _=>?_
     simp [r1105,bb,hd2]
    ·have h6':¬ (l.length:Int)=((s.idx.length + 1:Nat):Int):=by omega
     simp [hjl,hs2,S.cells,w1,h6',-Int.natCast_add]
     refine hloop (by rw [hds,hsx];simp [h6]) ⟨by simp,by simp [PL.rcells],by simp,by simp [cells_mk]⟩ (by simp)
end Go.Abs

namespace Go.Abs
open Go.Proofs
structure FG2 (p:PL) (cons:Int) (xs:List T) (j:Nat) (σ:St):Prop where
 s2:σ.sl 2=.c (.v (.int .i64 cons))
 s3:σ.sl 3=.c (.ref 1150003 (σ.tg 1150003) 0)
 o3:σ.ob 1150003=some (.box 134 p.rcells)
 s8:σ.sl 8=.c (.sl 3 40 (xs.map T.cells))
 s12:σ.sl 12=.c (.v (.int .i64 j))
def J1150b (p:PL) (cons:Int) (ys:List A) (xs:List T) (j:Nat) (cl gd:T → Bool) (m:Nat) (σ:St):Prop:=∃ i:Nat,i + m=ys.length ∧ goodL cl gd p (ys.drop i) (xs.drop i)=goodL cl gd p ys xs ∧ FG2 p cons xs j σ ∧ σ.sl 13=.c (.v (.int .i64 i))
theorem loop1150b {σ:St} {Q:SEx → St → Prop} (p:PL) (cons:Int) (s:K) (j:Nat) (hs:p.b.cons[j]? = some s) (xs:List T) (cl gd:T → Bool) (hl:s.args.length=xs.length) (hx1:xs.length ≤ 1048576) (hf:∀ x,x ∈ xs → x.formed=true)
  (h1:∀ x,x ∈ xs → Fn Tryz.prog 105 [rpl p,tm x] (bb (cl x))) (h2:∀ x,x ∈ xs → Fn Tryz.prog 150 [rpl p,tm x,ib cons] (bb (gd x))) (H:FG2 p cons xs j σ) (s13:σ.sl 13=.c (.v (.int .i64 (0:Nat))))
  (hR:∀ σ',goodL cl gd p s.args xs=false → σ'.sl 6=bb false → Q .ret σ') (hQ:∀ σ',goodL cl gd p s.args xs=true → Q .normal σ'):W Tryz.prog 1150000 (.loop c1150b1) σ (onBlock 2 Q):=by
 refine W_loop (J1150b p cons s.args xs j cl gd) s.args.length ⟨0,by simp,by simp,H,s13⟩ ?_
 clear H s13 σ
 rintro m σ ⟨i,hm2,hp,⟨s2,s3,o3,s8,s12⟩,s13⟩
 simp only [PL.rcells] at o3
 obtain ⟨hjl,hs2⟩:=getE hs
 unfold c1150b1
 by_cases hi:i < s.args.length
 ·have w1:=wrap_succ (i:=i) (by omega)
  have hix:i < xs.length:=by omega
  obtain ⟨a,ha⟩:=at_of hi
  obtain ⟨x,hx⟩:=at_of (ts:=xs) (i:=i) (by omega)
  obtain ⟨_,ha2⟩:=getE ha
  obtain ⟨hxl,hx2⟩:=getE hx
  have hxm:=List.mem_of_getElem? hx
  have hcl:=h1 x hxm
  have hgd:=h2 x hxm
  have hxf:=hf x hxm
  rw [goodL_at ha hx] at hp
  have fin:∀ σ',badA cl gd p a x=true → σ'.sl 6=bb false → Q .ret σ':=fun σ' hb q=>hR σ' (by rw [hb] at hp;simpa using hp.symm) q
  have go:∀ {σ':St},badA cl gd p a x=false → FG2 p cons xs j σ' → σ'.sl 13=.c (.v (.int .i64 ((i + 1:Nat):Int))) → ∃ m',m' < m ∧ J1150b p cons s.args xs j cl gd m' σ':=fun hb H h13=>⟨m - 1,by omega,i + 1,by omega,by rw [hb] at hp;simpa using hp,H,h13⟩
  have hg:=gvar_guarded p x
  simp [s2,s3,o3,s8,s12,s13,hix,hjl,hs2,K.cells,hi,ha2,A.cells]
  refine W_dregA ?_
  cases hrc:a.rc with
  | false=>
   simp [s2,s3,o3,s8,s12,s13,hix,hx2,hrc,cells_eq x]
   refine GCallA.fn (fun _=>hcl) (by simp [rpl,PL.rcells,tm,cells_eq]) (by simp) rfl ?_
   cases hc:cl x with
   | false=>
    simp [bb,s2,s3,o3,s8,s12,s13,hix,hx2,hrc,cells_eq x]
    refine GCallA.fn (res:=bb true) (fun h=>by cases h) rfl (by simp) rfl ?_
    simp [bb,s2,s3,o3,s8,s12,s13,hix,hx2,hrc,cells_eq x]
    refine GCallA.fn (res:=ib 0) (fun h=>by cases h) rfl (by simp) rfl ?_
    simp [ib,bb]
    refine realC_n ?_
    simp
    exact fin _ (by simp [badA,hrc,hc]) (by simp [bb])
   | true=>
    simp [bb,s2,s3,o3,s8,s12,s13,hix,hx2,hrc,cells_eq x]
    refine GCallA.fn (res:=bb true) (fun h=>by cases h) rfl (by simp) rfl ?_
    simp [bb,s2,s3,o3,s8,s12,s13,hix,hx2,hrc,cells_eq x]
    refine GCallA.fn (res:=ib 0) (fun h=>by cases h) rfl (by simp) rfl ?_
    simp [ib,bb]
    refine realC_n ?_
    simp [s13,w1]
    exact go (by simp [badA,hrc,hc]) ⟨by simp [s2],by simp [s3],by simp [o3,PL.rcells],by simp [s8],by simp [s12]⟩ (by simp)
  | true=>
   simp [s2,s3,o3,s8,s12,s13,hix,hx2,hrc,cells_eq x]
   refine GCallA.fn (res:=bb true) (fun h=>by cases h) rfl (by simp) rfl ?_
   by_cases hd:a.dom=[]
   ·have hd0:a.dom.length=0:=by simp [hd]
    simp [bb,s2,s3,o3,s8,s12,s13,hix,hx2,hrc,cells_eq x,hd]
    refine GCallA.fn (fun _=>hgd) (by simp [rpl,PL.rcells,tm,ib,cells_eq]) (by simp) rfl ?_
    cases hc:gd x with
    | false=>
     simp [bb,s2,s3,o3,s8,s12,s13,hix,hx2,hrc,cells_eq x,hd]
     refine GCallA.fn (res:=ib 0) (fun h=>by cases h) rfl (by simp) rfl ?_
     simp [ib,bb]
     refine realC_n ?_
     simp
     exact fin _ (by simp [badA,hrc,hc,hd]) (by simp [bb])
    | true=>
     simp [bb,s2,s3,o3,s8,s12,s13,hix,hx2,hrc,cells_eq x,hd]
     refine GCallA.fn (res:=ib 0) (fun h=>by cases h) rfl (by simp) rfl ?_
     simp [ib,bb]
     refine realC_n ?_
     simp [s13,w1]
     exact go (by simp [badA,hrc,hc,hd]) ⟨by simp [s2],by simp [s3],by simp [o3,PL.rcells],by simp [s8],by simp [s12]⟩ (by simp)
   ·have hd3:0 < a.dom.length:=List.length_pos_iff.2 hd
    have hd2:(0:Int) < a.dom.length:=by omega
    have hd':¬ (a.dom.length:Int)=0:=by omega
    simp [bb,s2,s3,o3,s8,s12,s13,hix,hx2,hrc,cells_eq x,hd,hd2,hd3,hd']
    refine GCallA.fn (res:=bb true) (fun h=>by cases h) rfl (by simp) rfl ?_
    by_cases k1:x.kind=1
    ·have hgx:=hg k1 (formed_val hxf)
     simp [bb,s2,s3,o3,s8,s12,s13,hix,hx2,hrc,cells_eq x,hd,hd2,hd3,hd',k1]
     refine GCallA.fn (fun _=>fn1146 p x.val (formed_val hxf)) (by simp [rpl,PL.rcells,ib]) (by simp) rfl ?_
     by_cases k2:0 ≤ gvar p x.val
     ·have hgt:(p.guarded x).2=true:=by rw [hgx.1];simpa using k2
      simp [ib,bb,k2]
      refine realC_n ?_
      simp [s13,w1]
      exact go (by simp [badA,hrc,hd,hgt]) ⟨by simp [s2],by simp [s3],by simp [o3,PL.rcells],by simp [s8],by simp [s12]⟩ (by simp)
     ·have hgt:(p.guarded x).2=false:=by rw [hgx.1];simpa using k2
      simp [ib,bb,k2]
      refine realC_n ?_
      simp
      exact fin _ (by simp [badA,hrc,hd,hd3,hgt]) (by simp [bb])
    ·have hgt:=guarded_kind (p:=p) k1
     simp [bb,s2,s3,o3,s8,s12,s13,hix,hx2,hrc,cells_eq x,hd,hd2,hd3,hd',k1]
     refine GCallA.fn (res:=ib 0) (fun h=>by cases h) rfl (by simp) rfl ?_
     simp [ib,bb]
     refine realC_n ?_
     simp
     exact fin _ (by simp [badA,hrc,hd,hd3,hgt]) (by simp [bb])
 ·have:i=s.args.length:=by omega
  subst this
  simp [goodL] at hp
  have hix:¬ s.args.length < xs.length:=by omega
  simp [s8,s13,hix]
  exact hQ _ hp
structure FG3 (p:PL) (xs:List T) (σ:St):Prop where
 s3:σ.sl 3=.c (.ref 1150003 (σ.tg 1150003) 0)
 o3:σ.ob 1150003=some (.box 134 p.rcells)
 s8:σ.sl 8=.c (.sl 3 40 (xs.map T.cells))
def J1150a (p:PL) (us:List T) (cl:T → Bool) (m:Nat) (σ:St):Prop:=∃ j:Nat,j + m=us.length ∧ (us.drop j).all cl=us.all cl ∧ FG3 p us σ ∧ σ.sl 10=.c (.v (.int .i64 j))
theorem loop1150a {σ:St} {Q:SEx → St → Prop} (p:PL) (us:List T) (cl:T → Bool) (hl:us.length ≤ 10000000) (hcl:∀ x,x ∈ us → Fn Tryz.prog 105 [rpl p,tm x] (bb (cl x))) (H:FG3 p us σ) (s10:σ.sl 10=.c (.v (.int .i64 (0:Nat))))
  (hR:∀ σ',us.all cl=false → σ'.sl 6=bb false → Q .ret σ') (hQ:∀ σ',us.all cl=true → Q .normal σ'):W Tryz.prog 1150000 (.loop c1150b0) σ (onBlock 0 Q):=by
 refine W_loop (J1150a p us cl) us.length ⟨0,by simp,by simp,H,s10⟩ ?_
 clear H s10 σ
 rintro m σ ⟨j,hm,hp,⟨s3,o3,s8⟩,s10⟩
 simp only [PL.rcells] at o3
 unfold c1150b0
 by_cases hj:j < us.length
 ·have w1:=wrap_succ (i:=j) (by omega)
  obtain ⟨x,hx1⟩:=at_of hj
  obtain ⟨_,hx2⟩:=getE hx1
  rw [drop_at hx1,List.all_cons] at hp
  simp [s3,o3,s8,s10,hj]
  refine W_dregA ?_
  simp [s3,o3,s8,s10,hj,hx2,cells_eq x]
  refine CallA.fn (hcl x (List.mem_of_getElem? hx1)) (by simp [rpl,PL.rcells,tm,cells_eq]) (by simp) rfl ?_
  cases hin:cl x with
  | false=>
   rw [hin] at hp
   simp [bb]
   refine realC_n ?_
   simp
   exact hR _ (by simpa using hp.symm) (by simp [bb])
  | true=>
   rw [hin] at hp
   simp [bb]
   refine realC_n ?_
   simp [s10,w1]
   exact ⟨m - 1,by omega,j + 1,by omega,by simpa using hp,⟨by simp [s3],by simp [o3,PL.rcells],by simp [s8]⟩,by simp⟩
 ·have:j=us.length:=by omega
  subst this
  simp [s3,o3,s8,s10]
  exact hQ _ (by rw [← hp];simp)
theorem fn1150:∀ (f:Nat) (p:PL),p.b.Fit → ∀ (cons:Int) (t:T),t.count ≤ f → t.count ≤ 1048576 → p.more + t.count ≤ 100000000 → t.formed=true → Fn Tryz.prog 150 [rpl p,tm t,ib cons] (bb (goodF f p cons t))
 | 0,p,hb,cons,t,hf,_,_,_=>by obtain ⟨k,n,ts⟩:=t;simp [T.count] at hf
 | f + 1,p,hb,cons,t,hf,hc,hm,hw=>by
  have ih:=fn1150 f
  refine fn_of (base:=1150000) ok1150 rfl fun σ h0 hr=>?_
  have s0:σ.sl 0=rpl p:=h0 0
  have s1:σ.sl 1=tm t:=h0 1
  have s2:σ.sl 2=.c (.v (.int .i64 cons)):=h0 2
  simp only [rpl,PL.rcells] at s0
  rw [tm,cells_eq] at s1
  clear h0 hr
  obtain ⟨f1,f2,f3⟩:=split_facts t.count t (Nat.le_refl _)
  have hsf:=split_formed hw
  have hlen:t.split.2.length ≤ 1048576:=by have:=split_len t;omega
  have hcl:∀ x,x ∈ t.split.2 → Fn Tryz.prog 105 [rpl p,tm x] (bb (cleanF f p x)):=fun x hx=>fn1105 f p hb x (by have:=(f3 x hx).1;omega) (by have:=(f3 x hx).1;omega) (by have:=(f3 x hx).1;omega) (hsf.2 x hx)
  have hgd:∀ x,x ∈ t.split.2 → Fn Tryz.prog 150 [rpl p,tm x,ib cons] (bb (goodF f p cons x)):=fun x hx=>ih p hb cons x (by have:=(f3 x hx).1;omega) (by have:=(f3 x hx).1;omega) (by have:=(f3 x hx).1;omega) (hsf.2 x hx)
  unfold c1150
  simp [s0,s1]
  refine ECall.fn (fn1148 t hc) (by simp [tm,cells_eq]) (by simp) (keys_tt _ _) fun _=>?_
  have hdef:goodF (f + 1) p cons t=goodF (f + 1) p cons t:=rfl
  conv at hdef=>rhs;unfold goodF
  generalize t.split.1=g at *
  generalize t.split.2=args at *
  simp [tm,tms,cells_eq g]
  by_cases k1:g.kind=1
  ·have hg:=gvar_guarded p g k1 (formed_val hsf.1)
   simp [k1]
   refine ECall.fn (fn1146 p g.val (formed_val hsf.1)) (by simp [rpl,PL.rcells,ib]) (by simp) rfl fun _=>?_
   by_cases k2:gvar p g.val < 0
   ·have h2:(p.guarded g).2=false:=by rw [hg.1];simp;omega
    have hdf:goodF (f + 1) p cons t=false:=by rw [hdef,if_neg (by simp [h2]),if_pos (by omega)]
    cases hx:p.args[(gvar p g.val).toNat]? with
    | none=>simp [ib,k2,hx,r1150,bb,hdf]
    | some a=>simp [ib,k2,hx,A.cells,r1150,bb,hdf]
   ·have h2:(p.guarded g).2=true:=by rw [hg.1];simp;omega
    obtain ⟨j,hj⟩:=Int.eq_ofNat_of_zero_le (a:=gvar p g.val) (by omega)
    obtain ⟨a,ha⟩:∃ a,p.args[j]? = some a:=by
     have h3:=hg.2 h2
     unfold PL.guarded at h2 h3
     split at h2
     ·rename_i hc1
      rw [if_pos hc1] at h3
      simp only at h3
      exact at_of (by omega)
     ·cases h2
    obtain ⟨hjl,ha2⟩:=getE ha
    have hjd:jDom p (p.guarded g).1=a.dom:=by rw [hg.2 h2,hj,jDom];simp [ha]
    rw [if_pos h2,hjd] at hdef
    have hj0:¬ (j:Int) < 0:=by omega
    by_cases h5:args.length=a.dom.length
    ·have h5':(args.length:Int)=a.dom.length:=by omega
     simp [ib,hj,hj0,hjl,ha2,A.cells,h5,h5',-W_block]
     rw [W_block]
     refine loop1150a p args (cleanF f p) (by omega) hcl ⟨by simp,by simp [PL.rcells],by simp⟩ (by simp) (fun σ' e q6=>?_) fun σ' e=>?_
     ·simp [q6,r1150,bb,hdef,e]
     ·simp [r1150,bb,hdef,e,h5]
    ·have h5':¬ (args.length:Int)=a.dom.length:=by omega
     simp [ib,hj,hj0,hjl,ha2,A.cells,h5,h5',r1150,bb,hdef]
  ·have h2:=guarded_kind (p:=p) k1
   rw [if_neg (by simp [h2])] at hdef
   by_cases k3:g.kind=3
   case neg=>
    have hdf:goodF (f + 1) p cons t=false:=by rw [hdef,if_pos (by omega)]
    simp [k1,k3,r1150,bb,hdf]
   rw [if_neg (by omega)] at hdef
   simp [k1,k3]
   refine ECall.fn (fn1147 p.b p.base g.val (formed_val hsf.1)) (by simp [bm,B.cells,ib]) (by simp) (keys_ii _ _) fun _=>?_
   generalize hok:p.b.ofK p.base g.val=kk at *
   obtain ⟨kd,kx⟩:=kk
   simp only [ib]
   by_cases k5:kd=5
   ·subst k5
    obtain ⟨k,hk1,hk2⟩:=ofK_con (b:=p.b) (base:=p.base) (n:=g.val) (by rw [hok])
    rw [hok] at hk1
    simp only [] at hk1
    subst hk1
    obtain ⟨s,hs⟩:=at_of hk2
    obtain ⟨hkl,hs2⟩:=getE hs
    have hsx:cArgs p.b (k:Int)=s.args:=by simp [cArgs,hs]
    by_cases k6:cons ≤ (k:Int)
    ·have hdf:goodF (f + 1) p cons t=false:=by rw [hdef,if_pos (.inr (.inl k6))]
     simp [s2,hkl,hs2,K.cells,k6,r1150,bb,hdf]
    ·by_cases hln:args.length=s.args.length
     ·have hln':(args.length:Int)=s.args.length:=by omega
      rw [if_neg (by rw [hsx];simp [k6,hln])] at hdef
      simp only [hsx] at hdef
      simp [s2,hkl,hs2,K.cells,k6,hln,hln',-W_block]
      rw [W_block]
      refine loop1150b p cons s k hs args (cleanF f p) (goodF f p cons) hln.symm hlen hsf.2 hcl hgd ⟨by simp [s2],by simp,by simp [PL.rcells],by simp,by simp⟩ (by simp) (fun σ' e q=>?_) fun σ' e=>?_
      ·simp [q,r1150,bb,hdef,e]
      ·simp [r1150,bb,hdef,e]
     ·have hln':¬ (args.length:Int)=s.args.length:=by omega
      have hdf:goodF (f + 1) p cons t=false:=by rw [hdef,if_pos (.inr (.inr (by rw [hsx];exact hln)))]
      simp [s2,hkl,hs2,K.cells,k6,hln,hln',r1150,bb,hdf]
   ·have hdf:goodF (f + 1) p cons t=false:=by rw [hdef,if_pos (.inl k5)]
    cases hx:p.b.cons[kx.toNat]? with
    | none=>simp [s2,k5,hx,r1150,bb,hdf]
    | some s=>simp [s2,k5,hx,K.cells,r1150,bb,hdf]
end Go.Abs

namespace Go.Abs
open Go.Proofs
theorem inn_formed {t:T} {v:Int} (h:t.inn v=true):t.formed=true:=by
 simp only [T.inn,T.scope,Bool.and_eq_true,decide_eq_true_eq] at h
 exact ((check_iff t).1 h.1.2).2.2
structure A.Frm (a:A):Prop where
 typ:a.rc=false → a.typ.formed=true
 dom:∀ t,t ∈ a.dom → t.formed=true
 idx:∀ t,t ∈ a.idx → t.formed=true
theorem domIn_all:∀ {l:List T} {i:Nat},domIn l i=true → ∀ t,t ∈ l → t.formed=true
 | [],_,_,t,h=>by cases h
 | d :: l,i,h,t,ht=>by
  rw [domIn,Bool.and_eq_true] at h
  rcases List.mem_cons.1 ht with rfl | ht
  ·exact inn_formed h.1
  ·exact domIn_all h.2 t ht
theorem allIn_all {l:List T} {v:Int} (h:allIn l v=true):∀ t,t ∈ l → t.formed=true:=fun t ht=>inn_formed (List.all_eq_true.1 h t ht)
theorem right_frm {b:B} {a:A} {i:Nat} (h:a.right b i=true):a.Frm:=by
 unfold A.right at h
 cases hrc:a.rc with
 | true=>
  rw [hrc] at h
  simp only [if_true,Bool.and_eq_true] at h
  exact ⟨fun e=>by simp [hrc] at e,domIn_all h.1.2,allIn_all h.2⟩
 | false=>
  rw [hrc] at h
  simp only [Bool.false_eq_true,if_false,Bool.and_eq_true,decide_eq_true_eq] at h
  have h1:a.dom=[]:=List.length_eq_zero_iff.1 (by omega)
  have h2:a.idx=[]:=List.length_eq_zero_iff.1 (by omega)
  exact ⟨fun _=>inn_formed h.1.1,by rw [h1];simp,by rw [h2];simp⟩
theorem rowA_frm {b:B}:∀ {l:List A} {i:Nat},rowA b l i=true → ∀ a,a ∈ l → a.Frm
 | [],_,_,a,h=>by cases h
 | a :: l,i,h,x,hx=>by
  rw [rowA,Bool.and_eq_true] at h
  rcases List.mem_cons.1 hx with rfl | hx
  ·exact right_frm h.1
  ·exact rowA_frm h.2 x hx
theorem rowOk_frm {b:B} {l:List A} (h:rowOk b l=true):∀ a,a ∈ l → a.Frm:=by
 unfold rowOk at h
 rw [Bool.and_eq_true] at h
 exact rowA_frm h.2
theorem fnClean2 {p:PL} (hb:p.b.Fit) {t:T} (ht:t.ok) (hf:t.formed=true) (hm:p.more ≤ 1000):Fn Tryz.prog 105 [rpl p,tm t] (bb (clean p t)):=fn1105 NN p hb t ht.1 ht.1 (by have:=ht.1;omega) hf
theorem fnGood2 {p:PL} (hb:p.b.Fit) {t:T} (ht:t.ok) (hf:t.formed=true) (hm:p.more ≤ 1000) (c:Int):Fn Tryz.prog 150 [rpl p,tm t,ib c] (bb (good p c t)):=fn1150 NN p hb c t ht.1 ht.1 (by have:=ht.1;omega) hf
structure FI2 (p:PL) (k:Nat) (c:Int) (l:List T) (σ:St):Prop where
 s1:σ.sl 1=.c (.v (.int .i64 k))
 s2:σ.sl 2=.c (.sl 3 40 (l.map T.cells))
 s3:σ.sl 3=.c (.v (.int .i64 c))
 s4:σ.sl 4=.c (.ref 1106004 (σ.tg 1106004) 0)
 o4:σ.ob 1106004=some (.box 134 p.rcells)
theorem indG_at {p:PL} {c:Int} {ys:List A} {xs:List T} {i:Nat} {a:A} {x:T} (ha:ys[i]? = some a) (hx:xs[i]? = some x):indG p c (ys.drop i) (xs.drop i)=(!badI p c a x && indG p c (ys.drop (i + 1)) (xs.drop (i + 1))):=by
 rw [drop_at ha,drop_at hx,indG]
def J1106 (p:PL) (k:Nat) (c:Int) (ys:List A) (xs:List T) (m:Nat) (σ:St):Prop:=∃ i:Nat,i + m=xs.length ∧ indG p c (ys.drop i) (xs.drop i)=indG p c ys xs ∧ FI2 p k c xs σ ∧ σ.sl 9=.c (.v (.int .i64 i))
theorem fn1106 (p:PL) (hb:p.b.Fit) (hm:p.more ≤ 1000) (k:Nat) (s:S) (hs:p.b.sorts[k]? = some s) (c:Int) (xs:List T) (hl:s.idx.length=xs.length) (hx:∀ x,x ∈ xs → x.ok ∧ x.formed=true):Fn Tryz.prog 106 [rpl p,ib k,tms xs,ib c] (bb (indG p c s.idx xs)):=by
 refine fn_of (base:=1106000) ok1106 rfl fun σ h0 hr=>?_
 have s0:σ.sl 0=rpl p:=h0 0
 have s1:σ.sl 1=.c (.v (.int .i64 k)):=h0 1
 have s2:σ.sl 2=.c (.sl 3 40 (xs.map T.cells)):=h0 2
 have s3:σ.sl 3=.c (.v (.int .i64 c)):=h0 3
 have h12:=hb.srt s (List.mem_of_getElem? hs)
 simp only [rpl,PL.rcells] at s0
 clear h0 hr
 obtain ⟨hkl,hs2⟩:=getE hs
 unfold c1106
 simp [s0,s1,s2,s3,-W_block]
 rw [W_block]
 refine W_loop (J1106 p k c s.idx xs) xs.length ⟨0,by simp,by simp,⟨by simp [s1],by simp [s2],by simp [s3],by simp,by simp [PL.rcells]⟩,by simp⟩ ?_
 clear s0 s1 s2 s3 σ
 rintro m σ ⟨i,hm2,hp,⟨s1,s2,s3,s4,o4⟩,s9⟩
 simp only [PL.rcells] at o4
 unfold c1106b0
 by_cases hi:i < xs.length
 ·have w1:=wrap_succ (i:=i) (by omega)
  have hil:i < s.idx.length:=by omega
  obtain ⟨a,ha⟩:=at_of hil
  obtain ⟨x,hx1⟩:=at_of hi
  obtain ⟨_,ha2⟩:=getE ha
  obtain ⟨_,hx2⟩:=getE hx1
  obtain ⟨hxo,hxf⟩:=hx x (List.mem_of_getElem? hx1)
  have hcl:=fnClean2 hb hxo hxf hm
  have hgd:=fnGood2 hb hxo hxf hm c
  rw [indG_at ha hx1] at hp
  have fin:∀ {Q:Prop},badI p c a x=true → (indG p c s.idx xs=false → Q) → Q:=fun hb q=>q (by rw [hb] at hp;simpa using hp.symm)
  have go:∀ {σ':St},badI p c a x=false → FI2 p k c xs σ' → σ'.sl 9=.c (.v (.int .i64 ((i + 1:Nat):Int))) → ∃ m',m' < m ∧ J1106 p k c s.idx xs m' σ':=fun hb H h9=>⟨m - 1,by omega,i + 1,by omega,by rw [hb] at hp;simpa using hp,H,h9⟩
  simp [s1,s2,s3,s4,o4,s9,hi]
  refine W_dregA ?_
  cases hrc:a.rc with
  | true=>
   simp [s1,s2,s3,s4,o4,s9,hi,hkl,hs2,S.cells,hil,ha2,A.cells,hrc,hx2,cells_eq x]
   refine GCallA.fn (fun _=>hgd) (by simp [rpl,PL.rcells,tm,ib,cells_eq]) (by simp) rfl ?_
   cases hc:good p c x with
   | false=>
    simp [bb,s1,s2,s3,s4,o4,s9,hi,hkl,hs2,S.cells,hil,ha2,A.cells,hrc,hx2,cells_eq x]
    refine GCallA.fn (res:=bb true) (fun h=>by cases h) rfl (by simp) rfl ?_
    simp [bb]
    refine realC_n ?_
    refine fin (by simp [badI,hrc,hc]) fun e=>?_
    simp [r1106,bb,e]
   | true=>
    simp [bb,s1,s2,s3,s4,o4,s9,hi,hkl,hs2,S.cells,hil,ha2,A.cells,hrc,hx2,cells_eq x]
    refine GCallA.fn (res:=bb true) (fun h=>by cases h) rfl (by simp) rfl ?_
    simp [bb]
    refine realC_n ?_
    simp [s9,w1]
    exact go (by simp [badI,hrc,hc]) ⟨by simp [s1],by simp [s2],by simp [s3],by simp [s4],by simp [o4,PL.rcells]⟩ (by simp)
  | false=>
   simp [s1,s2,s3,s4,o4,s9,hi,hkl,hs2,S.cells,hil,ha2,A.cells,hrc,hx2,cells_eq x]
   refine GCallA.fn (res:=bb true) (fun h=>by cases h) rfl (by simp) rfl ?_
   simp [bb,s1,s2,s3,s4,o4,s9,hi,hkl,hs2,S.cells,hil,ha2,A.cells,hrc,hx2,cells_eq x]
   refine GCallA.fn (fun _=>hcl) (by simp [rpl,PL.rcells,tm,cells_eq]) (by simp) rfl ?_
   cases hc:clean p x with
   | false=>
    simp [bb]
    refine realC_n ?_
    refine fin (by simp [badI,hrc,hc]) fun e=>?_
    simp [r1106,bb,e]
   | true=>
    simp [bb]
    refine realC_n ?_
    simp [s9,w1]
    exact go (by simp [badI,hrc,hc]) ⟨by simp [s1],by simp [s2],by simp [s3],by simp [s4],by simp [o4,PL.rcells]⟩ (by simp)
 ·have:i=xs.length:=by omega
  subst this
  have e:indG p c s.idx xs=true:=by rw [← hp,List.drop_eq_nil_of_le (by omega)];simp [indG]
  simp [s2,s9,r1106,bb,e]
end Go.Abs

namespace Go.Abs
open Go.Proofs
structure FT0 (b:B) (base:Int) (l:List A) (c:Int) (i:Nat) (σ:St):Prop where
 s1:σ.sl 1=.c (.v (.int .i64 base))
 s2:σ.sl 2=.c (.sl 7 104 (l.map A.cells))
 s3:σ.sl 3=.c (.v (.int .i64 c))
 s4:σ.sl 4=.c (.ref 1103004 (σ.tg 1103004) 0)
 o4:σ.ob 1103004=some (.box 68 b.cells)
 s9:σ.sl 9=.c (.v (.int .i64 i))
structure FT1 (p:PL) (σ:St):Prop where
 s10:σ.sl 10=.c (.ref 1103010 (σ.tg 1103010) 0)
 o10:σ.ob 1103010=some (.box 134 p.rcells)
def J1103a (b:B) (base:Int) (l:List A) (c:Int) (p:PL) (i:Nat) (ds:List T) (m:Nat) (σ:St):Prop:=∃ j:Nat,j + m=ds.length ∧ domG p (ds.drop j) j=domG p ds 0 ∧ FT0 b base l c i σ ∧ FT1 p σ ∧ σ.sl 11=.c (.v (.int .i64 j))
theorem loop1103a {σ:St} {Q:SEx → St → Prop} (b:B) (base:Int) (l:List A) (c:Int) (p:PL) (hb:p.b.Fit) (hm:p.more=0) (i:Nat) (a:A) (ha:l[i]? = some a) (hd:a.dom.length ≤ 12) (ho:∀ t,t ∈ a.dom → t.ok ∧ t.formed=true) (H:FT0 b base l c i σ) (H1:FT1 p σ) (s11:σ.sl 11=.c (.v (.int .i64 (0:Nat))))
  (hR:∀ σ',domG p a.dom 0=false → σ'.sl 8=bb false → Q .ret σ') (hQ:∀ σ',domG p a.dom 0=true → FT0 b base l c i σ' → FT1 p σ' → Q .normal σ'):W Tryz.prog 1103000 (.loop c1103b0) σ (onBlock 2 Q):=by
 refine W_loop (J1103a b base l c p i a.dom) a.dom.length ⟨0,by simp,by simp,H,H1,s11⟩ ?_
 clear H H1 s11 σ
 rintro m σ ⟨j,hm2,hp,⟨s1,s2,s3,s4,o4,s9⟩,⟨s10,o10⟩,s11⟩
 simp only [PL.rcells] at o10
 obtain ⟨hil,ha2⟩:=getE ha
 unfold c1103b0
 by_cases hj:j < a.dom.length
 ·have w1:=wrap_succ (i:=j) (by omega)
  obtain ⟨d,hd1⟩:=at_of hj
  obtain ⟨_,hd2⟩:=getE hd1
  obtain ⟨hdo,hdf⟩:=ho d (List.mem_of_getElem? hd1)
  rw [drop_at hd1,domG] at hp
  have hcl:=fnClean2 (p:=p.inn j) hb hdo hdf (by show p.more + j ≤ 1000;omega)
  simp [s1,s2,s3,s4,o4,s9,s10,o10,s11,hil,ha2,A.cells,hj]
  refine W_dregA ?_
  simp [s1,s2,s3,s4,o4,s9,s10,o10,s11,hil,ha2,A.cells,hj,hd2,cells_eq d]
  refine CallA.fn (fn1145 p j (by omega) (by omega)) (by simp [rpl,PL.rcells,ib]) (by simp) (keys_rpl _) ?_
  simp [s1,s2,s3,s4,o4,s9,s10,o10,s11,hil,ha2,A.cells,hj,hd2,cells_eq d,rpl,PL.rcells]
  refine CallA.fn hcl (by simp [rpl,PL.rcells,tm,cells_eq]) (by simp) rfl ?_
  cases hc:clean (p.inn j) d with
  | false=>
   rw [hc] at hp
   simp [bb]
   refine realC_n ?_
   simp
   exact hR _ (by simpa using hp.symm) (by simp [bb])
  | true=>
   rw [hc] at hp
   simp [bb]
   refine realC_n ?_
   simp [s11,w1]
   exact ⟨m - 1,by omega,j + 1,by omega,by simpa using hp,⟨by simp [s1],by simp [s2],by simp [s3],by simp [s4],by simp [o4],by simp [s9]⟩,⟨by simp [s10],by simp [o10,PL.rcells]⟩,by simp⟩
 ·have:j=a.dom.length:=by omega
  subst this
  simp [domG] at hp
  simp [s1,s2,s3,s4,o4,s9,s10,o10,s11,hil,ha2,A.cells]
  exact hQ _ hp ⟨by simp [s1],by simp [s2],by simp [s3],by simp [s4],by simp [o4],by simp [s9]⟩ ⟨by simp [s10],by simp [o10,PL.rcells]⟩
def J1103b (b:B) (base:Int) (l:List A) (c:Int) (m:Nat) (σ:St):Prop:=∃ i:Nat,i + m=l.length ∧ rowG b base l c (l.drop i) i=rowG b base l c l 0 ∧ FT0 b base l c i σ
theorem fn1103 (b:B) (hb:b.Fit) (base:Int) (l:List A) (hl:l.length ≤ 12) (c:Int) (hf:∀ a,a ∈ l → a.Fine b ∧ a.Frm):Fn Tryz.prog 103 [bm b,ib base,ams l,ib c] (bb (rowG b base l c l 0)):=by
 refine fn_of (base:=1103000) ok1103 rfl fun σ h0 hr=>?_
 have s0:σ.sl 0=bm b:=h0 0
 have s1:σ.sl 1=.c (.v (.int .i64 base)):=h0 1
 have s2:σ.sl 2=.c (.sl 7 104 (l.map A.cells)):=h0 2
 have s3:σ.sl 3=.c (.v (.int .i64 c)):=h0 3
 simp only [bm,B.cells] at s0
 clear h0 hr
 unfold c1103
 simp [s0,s1,s2,s3,-W_block]
 rw [W_block]
 refine W_loop (J1103b b base l c) l.length ⟨0,by simp,by simp,by simp [s1],by simp [s2],by simp [s3],by simp,by simp [B.cells],by simp⟩ ?_
 clear s0 s1 s2 s3 σ
 rintro m σ ⟨i,hm,hp,⟨s1,s2,s3,s4,o4,s9⟩⟩
 have o4':=o4
 simp only [B.cells] at o4
 unfold c1103b1
 by_cases hi:i < l.length
 ·have w1:=wrap_succ (i:=i) (by omega)
  obtain ⟨a,ha⟩:=at_of hi
  obtain ⟨_,ha2⟩:=getE ha
  obtain ⟨haf,haz⟩:=hf a (List.mem_of_getElem? ha)
  rw [drop_at ha,rowG] at hp
  have fin:∀ {Q:Prop},argG b base l c i a=false → (rowG b base l c l 0=false → Q) → Q:=fun hb q=>q (by rw [hb] at hp;simpa using hp.symm)
  have go:∀ {σ':St},argG b base l c i a=true → FT0 b base l c (i + 1) σ' → ∃ m',m' < m ∧ J1103b b base l c m' σ':=fun hb H=>⟨m - 1,by omega,i + 1,by omega,by rw [hb] at hp;simpa using hp,H⟩
  have hpb:(plAt b base l i).b.Fit:=hb
  simp [s1,s2,s3,s4,o4,s9,hi]
  refine W_dregD w1103_0 f1103_0 (by decide) ?_
  unfold w1103_0 f1103_0
  simp [s1,s2,s3,s4,o4,s9,optL]
  refine ⟨by simp [room];omega,?_⟩
  refine CallD.fn (fn1104 b base (l.take i)) (by simp [bm,B.cells,ib,ams,List.map_take]) (by simp) (keys_rpl _) (by simp [keysCs,Cell.keys]) ?_
  have hpl:rpl ⟨b,base,l.take i,0⟩=rpl (plAt b base l i):=rfl
  rw [hpl]
  generalize hP:plAt b base l i=p at *
  have hpm:p.more=0:=by rw [← hP];rfl
  simp [rpl,PL.rcells]
  refine realC_n ?_
  cases hrc:a.rc with
  | false=>
   have hag:argG b base l c i a=clean p a.typ:=by rw [← hP];simp [argG,hrc]
   have hcl:=fnClean2 hpb haf.ok.typ (haz.typ hrc) (by omega)
   simp [s1,s2,s3,s4,o4,s9,hi,ha2,A.cells,hrc]
   refine W_dregA ?_
   simp [s1,s2,s3,s4,o4,s9,hi,ha2,A.cells,cells_eq a.typ]
   refine CallA.fn hcl (by simp [rpl,PL.rcells,tm,cells_eq]) (by simp) rfl ?_
   cases hc:clean p a.typ with
   | false=>
    simp [bb]
    refine realC_n ?_
    refine fin (by rw [hag,hc]) fun e=>?_
    simp [r1103,bb,e]
   | true=>
    simp [bb]
    refine realC_n ?_
    simp [s9,w1]
    exact go (by rw [hag,hc]) ⟨by simp [s1],by simp [s2],by simp [s3],by simp [s4],by simp [o4,B.cells],by simp⟩
  | true=>
   have hag:argG b base l c i a=(domG p a.dom 0 && indG (p.inn a.dom.length) c (sIdx b a.sort) a.idx):=by rw [← hP];simp [argG,hrc]
   have hd12:=haf.dom hrc
   obtain ⟨hs0,hs1⟩:=haf.srt hrc
   have hsl:=haf.len hrc
   obtain ⟨k,hk⟩:=Int.eq_ofNat_of_zero_le hs0
   obtain ⟨s,hs⟩:=at_of (ts:=b.sorts) (i:=k) (by omega)
   have hpsort:p.b=b:=by rw [← hP];rfl
   have hsx:sIdx b a.sort=s.idx:=by rw [hk];simp [sIdx,hs]
   rw [hsx] at hsl hag
   have hind:=fn1106 (p.inn a.dom.length) hpb (by show p.more + a.dom.length ≤ 1000;omega) k s (by show p.b.sorts[k]? = some s;rw [hpsort];exact hs) c a.idx hsl.symm (fun x hx=>⟨haf.ok.idx x hx,haz.idx x hx⟩)
   simp [s1,s2,s3,s4,o4,s9,hi,ha2,A.cells,hrc,-W_block]
   rw [W_block]
   refine loop1103a b base l c p hpb hpm i a ha hd12 (fun t ht=>⟨haf.ok.dom t ht,haz.dom t ht⟩) ⟨by simp [s1],by simp [s2],by simp [s3],by simp [s4],by simp [o4,B.cells],by simp [s9]⟩ ⟨by simp,by simp [PL.rcells]⟩ (by simp) (fun σ' e q=>?_) fun σ' e H0 H1=>?_
   ·refine fin (by rw [hag,e];rfl) fun e2=>?_
    simp [q,r1103,bb,e2]
   clear s1 s2 s3 s4 o4 o4' s9
   obtain ⟨s1,s2,s3,s4,o4,s9⟩:=H0
   obtain ⟨s10,o10⟩:=H1
   simp only [PL.rcells] at o10
   simp
   refine W_dregA ?_
   simp [s1,s2,s3,s4,o4,s9,s10,o10,hi,ha2,A.cells]
   refine CallA.fn (fn1145 p a.dom.length (by omega) (by omega)) (by simp [rpl,PL.rcells,ib]) (by simp) (keys_rpl _) ?_
   simp [s1,s2,s3,s4,o4,s9,s10,o10,hi,ha2,A.cells,rpl,PL.rcells]
   refine CallA.fn hind (by simp [rpl,PL.rcells,ib,tms,hk]) (by simp) rfl ?_
   rw [e,Bool.true_and] at hag
   rw [← hag]
   cases hc:argG b base l c i a with
   | false=>
    simp [bb]
    refine realC_n ?_
    refine fin hc fun e=>?_
    simp [r1103,bb,e]
   | true=>
    simp [bb]
    refine realC_n ?_
    simp [s9,w1]
    exact go hc ⟨by simp [s1],by simp [s2],by simp [s3],by simp [s4],by simp [o4],by simp⟩
 ·have:i=l.length:=by omega
  subst this
  simp [rowG] at hp
  simp [s2,s9,r1103,bb,hp]
end Go.Abs

namespace Go.Abs
open Go.Proofs
theorem shape_b {b:B} (h:b.shape=0):b.shapeB=true:=by
 unfold B.shape at h
 split at h
 ·assumption
 ·cases h
theorem sortsOk_right {b:B}:∀ {l:List S} {k:Nat},sortsOk b l k=true → ∀ s,s ∈ l → maybeIn s.dec s.decType s.idx.length=true
 | [],_,_,s,h=>by cases h
 | s :: l,k,h,x,hx=>by
  rw [sortsOk,Bool.and_eq_true] at h
  rcases List.mem_cons.1 hx with rfl | hx
  ·have h1:=h.1
   simp only [S.right,Bool.and_eq_true] at h1
   exact h1.1.2
  ·exact sortsOk_right h.2 x hx
structure B.Frm (b:B):Prop where
 sdec:∀ s,s ∈ b.sorts → s.dec=true → s.decType.formed=true
 cidx:∀ c,c ∈ b.cons → ∀ t,t ∈ c.idx → t.formed=true
 cdec:∀ c,c ∈ b.cons → (sAt b c.sort).dec=true → c.dec.formed=true
theorem shape_frm {b:B} (h:b.shape=0):b.Frm:=by
 have hb:=shape_b h
 simp only [B.shapeB,Bool.and_eq_true] at hb
 obtain ⟨⟨_,h5⟩,h6⟩:=hb
 refine ⟨fun s hs hd=>?_,fun c hc=>?_,fun c hc hd=>?_⟩
 ·have:=sortsOk_right h5 s hs
  rw [hd] at this
  exact inn_formed (by simpa [maybeIn] using this)
 ·have:=List.all_eq_true.1 h6 c hc
  simp only [K.right,Bool.and_eq_true] at this
  exact allIn_all this.1.2
 ·have:=List.all_eq_true.1 h6 c hc
  simp only [K.right,Bool.and_eq_true] at this
  have h7:=this.2
  rw [hd] at h7
  exact inn_formed (by simpa [maybeIn] using h7)
structure FP7 (b:B) (base:Int) (σ:St):Prop where
 s1:σ.sl 1=.c (.v (.int .i64 base))
 s2:σ.sl 2=.c (.ref 1071002 (σ.tg 1071002) 0)
 o2:σ.ob 1071002=some (.box 68 b.cells)
def J1071a (b:B) (base:Int) (m:Nat) (σ:St):Prop:=∃ i:Nat,i + m=b.sorts.length ∧ (b.sorts.drop i).all (sortP b base)=b.sorts.all (sortP b base) ∧ FP7 b base σ ∧ σ.sl 5=.c (.v (.int .i64 i))
theorem loop1071a {σ:St} {Q:SEx → St → Prop} (b:B) (hF:b.Form) (hM:b.Frm) (hO:b.Ok) (base:Int) (H:FP7 b base σ) (s5:σ.sl 5=.c (.v (.int .i64 (0:Nat))))
  (hR:∀ σ',b.sorts.all (sortP b base)=false → σ'.sl 4=ib 11 → Q .ret σ') (hQ:∀ σ',b.sorts.all (sortP b base)=true → FP7 b base σ' → Q .normal σ'):W Tryz.prog 1071000 (.loop c1071b0) σ (onBlock 0 Q):=by
 have hfit:=hF.fit
 refine W_loop (J1071a b base) b.sorts.length ⟨0,by simp,by simp,H,s5⟩ ?_
 clear H s5 σ
 rintro m σ ⟨i,hm,hp,⟨s1,s2,o2⟩,s5⟩
 simp only [B.cells] at o2
 unfold c1071b0
 by_cases hi:i < b.sorts.length
 ·have hn:=hF.ns
  have w1:=wrap_succ (i:=i) (by omega)
  obtain ⟨s,hs⟩:=at_of hi
  obtain ⟨_,hs2⟩:=getE hs
  have hsm:=List.mem_of_getElem? hs
  have hso:=hO.sorts s hsm
  obtain ⟨h12,hfine⟩:=rowOk_facts (hF.srt s hsm) hso.idx
  have hfrm:=rowOk_frm (hF.srt s hsm)
  rw [drop_at hs,List.all_cons] at hp
  have fin:∀ σ',sortP b base s=false → σ'.sl 4=ib 11 → Q .ret σ':=fun σ' hb q=>hR σ' (by rw [hb] at hp;simpa using hp.symm) q
  have go:∀ {σ':St},sortP b base s=true → FP7 b base σ' → σ'.sl 5=.c (.v (.int .i64 ((i + 1:Nat):Int))) → ∃ m',m' < m ∧ J1071a b base m' σ':=fun hb H h5=>⟨m - 1,by omega,i + 1,by omega,by rw [hb] at hp;simpa using hp,H,h5⟩
  have htl:=fn1103 b hfit base s.idx h12 0 (fun a ha=>⟨hfine a ha,hfrm a ha⟩)
  have hat:=fn1104 b base s.idx
  have hcl:s.dec=true → Fn Tryz.prog 105 [rpl ⟨b,base,s.idx,0⟩,tm s.decType] (bb (clean ⟨b,base,s.idx,0⟩ s.decType)):=fun hd=>fnClean2 (p:=⟨b,base,s.idx,0⟩) hfit hso.dec (hM.sdec s hsm hd) (by show (0:Nat) ≤ 1000;omega)
  have hdef:sortP b base s=(rowG b base s.idx 0 s.idx 0 && (!s.dec || clean ⟨b,base,s.idx,0⟩ s.decType)):=rfl
  generalize rowG b base s.idx 0 s.idx 0=z1 at *
  generalize clean ⟨b,base,s.idx,0⟩ s.decType=z2 at *
  simp [s1,s2,o2,s5,hi,hs2,S.cells]
  refine W_dregA ?_
  simp [s1,s2,o2,s5,hi,hs2,S.cells]
  refine CallA.fn htl (by simp [bm,B.cells,ib,ams]) (by simp) rfl ?_
  cases z1 with
  | false=>
   cases hd:s.dec <;>
   ·simp [bb,s1,s2,o2,s5,hd,cells_eq s.decType]
    refine GCallA.fn (res:=bb true) (fun h=>by cases h) rfl (by simp) rfl ?_
    simp [bb,s1,s2,o2,s5,hd,cells_eq s.decType]
    refine GCallA.fn (res:=bb true) (fun h=>by cases h) rfl (by simp) rfl ?_
    simp [bb]
    refine realC_n ?_
    simp
    exact fin _ (by rw [hdef];simp) (by simp [ib])
  | true=>
   cases hd:s.dec with
   | false=>
    simp [bb,s1,s2,o2,s5,hd,cells_eq s.decType]
    refine GCallA.fn (res:=bb true) (fun h=>by cases h) rfl (by simp) rfl ?_
    simp [bb,s1,s2,o2,s5,hd,cells_eq s.decType]
    refine GCallA.fn (res:=bb true) (fun h=>by cases h) rfl (by simp) rfl ?_
    simp [bb]
    refine realC_n ?_
    simp [s5,w1]
    exact go (by rw [hdef,hd];simp) ⟨by simp [s1],by simp [s2],by simp [o2,B.cells]⟩ (by simp)
   | true=>
    simp [bb,s1,s2,o2,s5,hd,cells_eq s.decType]
    refine GCallA.fn (fun _=>hat) (by simp [bm,B.cells,ib,ams]) (by simp) (keys_rpl _) ?_
    simp [bb,s1,s2,o2,s5,hd,cells_eq s.decType,rpl,PL.rcells]
    refine GCallA.fn (fun _=>hcl hd) (by simp [rpl,PL.rcells,tm,cells_eq]) (by simp) rfl ?_
    cases z2 with
    | false=>
     simp [bb]
     refine realC_n ?_
     simp
     exact fin _ (by rw [hdef,hd];simp) (by simp [ib])
    | true=>
     simp [bb]
     refine realC_n ?_
     simp [s5,w1]
     exact go (by rw [hdef,hd];simp) ⟨by simp [s1],by simp [s2],by simp [o2,B.cells]⟩ (by simp)
 ·have:i=b.sorts.length:=by omega
  subst this
  simp at hp
  simp [s1,s2,o2,s5]
  exact hQ _ (by simpa using hp) ⟨by simp [s1],by simp [s2],by simp [o2,B.cells]⟩
def J1071b (b:B) (base:Int) (m:Nat) (σ:St):Prop:=∃ i:Nat,i + m=b.cons.length ∧ conL b base (b.cons.drop i) i=conL b base b.cons 0 ∧ FP7 b base σ ∧ σ.sl 7=.c (.v (.int .i64 i))
theorem loop1071b {σ:St} {Q:SEx → St → Prop} (b:B) (hF:b.Form) (hM:b.Frm) (hO:b.Ok) (base:Int) (H:FP7 b base σ) (s7:σ.sl 7=.c (.v (.int .i64 (0:Nat))))
  (hR:∀ σ',conL b base b.cons 0=false → σ'.sl 4=ib 11 → Q .ret σ') (hQ:∀ σ',conL b base b.cons 0=true → Q .normal σ'):W Tryz.prog 1071000 (.loop c1071b1) σ (onBlock 2 Q):=by
 have hfit:=hF.fit
 refine W_loop (J1071b b base) b.cons.length ⟨0,by simp,by simp,H,s7⟩ ?_
 clear H s7 σ
 rintro m σ ⟨i,hm,hp,⟨s1,s2,o2⟩,s7⟩
 simp only [B.cells] at o2
 unfold c1071b1
 by_cases hi:i < b.cons.length
 ·have hn:=hF.nc
  have w1:=wrap_succ (i:=i) (by omega)
  obtain ⟨x,hx⟩:=at_of hi
  obtain ⟨_,hx2⟩:=getE hx
  have hxm:=List.mem_of_getElem? hx
  have hxo:=hO.cons x hxm
  obtain ⟨q0,q1,q2,q3⟩:=hF.con x hxm
  obtain ⟨h12,hfine⟩:=rowOk_facts q2 hxo.args
  have hfrm:=rowOk_frm q2
  obtain ⟨k,hk⟩:=Int.eq_ofNat_of_zero_le q0
  obtain ⟨s,hs⟩:=at_of (ts:=b.sorts) (i:=k) (by omega)
  obtain ⟨hkl,hs2⟩:=getE hs
  have hsx:sIdx b x.sort=s.idx:=by rw [hk];simp [sIdx,hs]
  have hsa:sAt b x.sort=s:=by rw [hk];simp [sAt,hs]
  rw [hsa] at q3
  rw [drop_at hx,conL] at hp
  have fin:∀ σ',conP b base i x=false → σ'.sl 4=ib 11 → Q .ret σ':=fun σ' hb q=>hR σ' (by rw [hb] at hp;simpa using hp.symm) q
  have go:∀ {σ':St},conP b base i x=true → FP7 b base σ' → σ'.sl 7=.c (.v (.int .i64 ((i + 1:Nat):Int))) → ∃ m',m' < m ∧ J1071b b base m' σ':=fun hb H h7=>⟨m - 1,by omega,i + 1,by omega,by rw [hb] at hp;simpa using hp,H,h7⟩
  have hdef:conP b base i x=(rowG b base x.args i x.args 0 && indG ⟨b,base,x.args,0⟩ i s.idx x.idx && (!s.dec || clean ⟨b,base,x.args,0⟩ x.dec)):=by simp only [conP,hsx,hsa]
  have hcl:s.dec=true → Fn Tryz.prog 105 [rpl ⟨b,base,x.args,0⟩,tm x.dec] (bb (clean ⟨b,base,x.args,0⟩ x.dec)):=fun hd=>fnClean2 (p:=⟨b,base,x.args,0⟩) hfit hxo.dec (hM.cdec x hxm (by rw [hsa];exact hd)) (by show (0:Nat) ≤ 1000;omega)
  have hin:=fn1106 ⟨b,base,x.args,0⟩ hfit (by show (0:Nat) ≤ 1000;omega) k s hs i x.idx q3.symm (fun t ht=>⟨hxo.idx t ht,hM.cidx x hxm t ht⟩)
  have hrw:=fn1103 b hfit base x.args h12 i (fun a ha=>⟨hfine a ha,hfrm a ha⟩)
  have hat:=fn1104 b base x.args
  generalize rowG b base x.args i x.args 0=z1 at *
  generalize indG ⟨b,base,x.args,0⟩ i s.idx x.idx=z2 at *
  generalize clean ⟨b,base,x.args,0⟩ x.dec=z3 at *
  simp [s1,s2,o2,s7,hi,hx2,K.cells]
  refine ECall.fn hat (by simp [bm,B.cells,ib,ams]) (by simp) (keys_rpl _) fun _=>?_
  simp [s1,s2,o2,s7,rpl,PL.rcells]
  refine ECall.fn hrw (by simp [bm,B.cells,ib,ams]) (by simp) rfl fun _=>?_
  cases z1 with
  | false=>
   simp [bb,s1,s2,o2,s7,hk,hkl,hs2,S.cells]
   refine GCall.fn (res:=bb true) (fun h=>by cases h) rfl (by simp) rfl fun _=>?_
   cases hd:s.dec <;>
   ·simp [bb,s1,s2,o2,s7,hk,hkl,hs2,S.cells,hd]
    refine GCall.fn (res:=bb true) (fun h=>by cases h) rfl (by simp) rfl fun _=>?_
    simp [bb]
    exact fin _ (by rw [hdef];simp) (by simp [ib])
  | true=>
   simp [bb,s1,s2,o2,s7,hk,hkl,hs2,S.cells]
   refine GCall.fn (fun _=>hin) (by simp [rpl,PL.rcells,ib,tms,hk]) (by simp) rfl fun _=>?_
   cases z2 with
   | false=>
    cases hd:s.dec <;>
    ·simp [bb,s1,s2,o2,s7,hk,hkl,hs2,S.cells,hd]
     refine GCall.fn (res:=bb true) (fun h=>by cases h) rfl (by simp) rfl fun _=>?_
     simp [bb]
     exact fin _ (by rw [hdef];simp) (by simp [ib])
   | true=>
    cases hd:s.dec with
    | false=>
     simp [bb,s1,s2,o2,s7,hk,hkl,hs2,S.cells,hd]
     refine GCall.fn (res:=bb true) (fun h=>by cases h) rfl (by simp) rfl fun _=>?_
     simp [bb,s7,w1]
     exact go (by rw [hdef,hd];simp) ⟨by simp [s1],by simp [s2],by simp [o2,B.cells]⟩ (by simp)
    | true=>
     simp [bb,s1,s2,o2,s7,hk,hkl,hs2,S.cells,hd,cells_eq x.dec]
     refine GCall.fn (fun _=>hcl hd) (by simp [rpl,PL.rcells,tm,cells_eq]) (by simp) rfl fun _=>?_
     cases z3 with
     | false=>
      simp [bb]
      exact fin _ (by rw [hdef,hd];simp) (by simp [ib])
     | true=>
      simp [bb,s7,w1]
      exact go (by rw [hdef,hd];simp) ⟨by simp [s1],by simp [s2],by simp [o2,B.cells]⟩ (by simp)
 ·have:i=b.cons.length:=by omega
  subst this
  simp [conL] at hp
  simp [s1,s2,o2,s7]
  exact hQ _ hp
theorem fn1071 (b:B) (base:Int) (hO:b.Ok):Fn Tryz.prog 71 [bm b,ib base] (ib (b.posit base)):=by
 refine fn_of (base:=1071000) ok1071 rfl fun σ h0 hr=>?_
 have s0:σ.sl 0=bm b:=h0 0
 have s1:σ.sl 1=.c (.v (.int .i64 base)):=h0 1
 simp only [bm,B.cells] at s0
 clear h0 hr
 unfold c1071
 simp [s0,s1]
 refine ECall.fn (fn1101 b hO) (by simp [bm,B.cells]) (by simp) rfl fun _=>?_
 cases hsb:b.shapeB with
 | false=>
  have e:b.posit base=12:=by simp [B.posit,B.shape,hsb]
  simp [bb,s1,e,r1071,ib]
 | true=>
  have hsh:b.shape=0:=by simp [B.shape,hsb]
  have hF:=shape_form hsh
  have hM:=shape_frm hsh
  simp [bb,s1]
  refine ECall.fn (fn1102 base 0 65535) (by simp [ib]) (by simp) rfl fun _=>?_
  by_cases c1:0 ≤ base ∧ base ≤ 65535
  ·have hb:btw base 0 65535=true:=by simp [btw,c1]
   have hdef:b.posit base=if b.sorts.all (sortP b base) && conL b base b.cons 0 then 0 else 11:=by
    unfold B.posit
    rw [if_neg (by simp [hsh]),if_neg (by omega)]
   rw [hdef,hb]
   generalize hz1:b.sorts.all (sortP b base)=z1
   generalize hz2:conL b base b.cons 0=z2
   simp [bb,-W_block]
   rw [W_block]
   refine loop1071a b hF hM hO base ⟨by simp [s1],by simp,by simp [B.cells]⟩ (by simp) (fun σ' e q=>?_) fun σ' e H=>?_
   ·rw [hz1] at e;subst e
    simp [q,r1071,ib]
   rw [hz1] at e;subst e
   obtain ⟨q1,q2,o2⟩:=H
   simp [q1,q2,o2,-W_block]
   rw [W_block]
   refine loop1071b b hF hM hO base ⟨by simp [q1],by simp [q2],by simp [o2]⟩ (by simp) (fun σ'' e q=>?_) fun σ'' e=>?_
   ·rw [hz2] at e;subst e
    simp [q,r1071,ib]
   ·rw [hz2] at e;subst e
    simp [r1071,ib]
  ·have hb:btw base 0 65535=false:=by simp [btw];omega
   have e:b.posit base=1:=by
    unfold B.posit
    rw [if_neg (by simp [hsh]),if_pos (by omega)]
   simp [bb,hb,e,r1071,ib]
end Go.Abs

namespace Go.Abs
open Go.Proofs
mutual
def T.gr (a:Int):T → Int
 | .mk k n ts=>best2 true (if k=3 then best2 true a n else a) (T.grL (-1) ts)
def T.grL:Int → List T → Int
 | a,[]=>a
 | a,t :: l=>T.grL (T.gr a t) l
end
def J1108 (ts:List T) (m:Nat) (σ:St):Prop:=∃ (i:Nat) (a:Int),i + m=ts.length ∧ T.grL a (ts.drop i)=T.grL (-1) ts ∧ σ.sl 0=.c (.sl 3 40 (ts.map T.cells)) ∧ σ.sl 3=.c (.v (.int .i64 a)) ∧ σ.sl 4=.c (.v (.int .i64 i))
theorem fn1108L (ts:List T) (h:∀ t,t ∈ ts → Fn Tryz.prog 108 [tms t.kids] (ib (T.grL (-1) t.kids))):Fn Tryz.prog 108 [tms ts] (ib (T.grL (-1) ts)):=by
 refine fn_of (base:=1108000) ok1108 rfl fun σ h0 hr=>?_
 have s0:σ.sl 0=.c (.sl 3 40 (ts.map T.cells)):=h0 0
 have hl:=real_tms (hr (tms ts) (by simp))
 clear h0 hr
 unfold c1108
 simp [s0,-W_block]
 rw [W_block]
 refine W_loop (J1108 ts) ts.length ⟨0,-1,by simp,by simp,by simp [s0],by simp,by simp⟩ ?_
 clear s0 σ
 rintro m σ ⟨i,a,hm,hp,s0,s3,s4⟩
 unfold c1108b0
 by_cases hi:i < ts.length
 ·have w1:=wrap_succ (i:=i) (by omega)
  obtain ⟨t,ht⟩:=at_of hi
  obtain ⟨_,ht2⟩:=getE ht
  have hc:=h t (List.mem_of_getElem? ht)
  rw [drop_at ht,T.grL] at hp
  obtain ⟨k,n,us⟩:=t
  rw [T.gr] at hp
  simp only [T.kids] at hc
  by_cases k3:k=3
  ·rw [if_pos k3] at hp
   simp [s0,s3,s4,hi,ht2,cells_mk,k3]
   refine ECall.fn hc (by simp [tms]) (by simp) rfl fun _=>?_
   simp [ib,s4,w1]
   exact ⟨m - 1,by omega,i + 1,_,by omega,hp,by simp [s0],by simp,by simp⟩
  ·rw [if_neg k3] at hp
   simp [s0,s3,s4,hi,ht2,cells_mk,k3]
   refine ECall.fn hc (by simp [tms]) (by simp) rfl fun _=>?_
   simp [ib,s4,w1]
   exact ⟨m - 1,by omega,i + 1,_,by omega,hp,by simp [s0],by simp,by simp⟩
 ·have:i=ts.length:=by omega
  subst this
  simp [T.grL] at hp
  simp [s0,s3,s4,r1108,ib,hp]
theorem fn1108k (t:T):Fn Tryz.prog 108 [tms t.kids] (ib (T.grL (-1) t.kids)):=by
 induction t using T.ind with
 | h k n ts ih=>exact fn1108L ts ih
theorem fn1108 (ts:List T):Fn Tryz.prog 108 [tms ts] (ib (T.grL (-1) ts)):=fn1108L ts fun t _=>fn1108k t
def w1107:List (List Nat):=[[],[],[],[],[],[],[1107017],[],[],[],[],[],[],[],[],[],[],[],[],[],[],[],[],[]]
def f1107:List (List Nat):=[[1107017],[],[],[],[],[],[],[],[1107017],[1107017],[1107017],[1107017],[1107017],[1107017],[1107017],[1107017],[1107017],[1107017],[1107017],[1107017],[1107017],[],[],[]]
def w1072a:List (List Nat):=[[],[],[],[],[],[],[],[],[],[],[],[],[],[],[1072027],[],[],[],[]]
def f1072a:List (List Nat):=[[1072027],[1072027],[1072027],[1072027],[1072027],[1072027],[1072027],[1072027],[],[],[],[],[],[],[],[],[],[],[]]
def w1072b:List (List Nat):=[[],[],[],[],[],[],[],[],[],[],[],[],[],[],[1072052],[],[],[],[],[],[],[],[],[],[],[],[]]
def f1072b:List (List Nat):=[[1072052],[1072052],[1072052],[1072052],[1072052],[1072052],[1072052],[1072052],[],[],[],[],[],[],[],[],[1072052],[1072052],[1072052],[1072052],[1072052],[1072052],[],[],[],[],[]]
def lastA (a:A):Int:=best2 true (T.grL (-1) [a.typ]) (best2 true (T.grL (-1) a.dom) (T.grL (-1) a.idx))
def lastL:Int → List A → Int
 | x,[]=>x
 | x,a :: l=>lastL (best2 true x (lastA a)) l
def J1107 (l:List A) (m:Nat) (σ:St):Prop:=∃ (i:Nat) (a:Int),i + m=l.length ∧ lastL a (l.drop i)=lastL (-1) l ∧ σ.sl 0=.c (.sl 7 104 (l.map A.cells)) ∧ σ.sl 3=.c (.v (.int .i64 a)) ∧ σ.sl 4=.c (.v (.int .i64 i))
theorem fn1107 (l:List A):Fn Tryz.prog 107 [ams l] (ib (lastL (-1) l)):=by
 refine fn_of (base:=1107000) ok1107 rfl fun σ h0 hr=>?_
 have s0:σ.sl 0=.c (.sl 7 104 (l.map A.cells)):=h0 0
 have hl:=real_ams (hr (ams l) (by simp))
 clear h0 hr
 unfold c1107
 simp [s0,-W_block]
 rw [W_block]
 refine W_loop (J1107 l) l.length ⟨0,-1,by simp,by simp,by simp [s0],by simp,by simp⟩ ?_
 clear s0 σ
 rintro m σ ⟨i,x,hm,hp,s0,s3,s4⟩
 unfold c1107b0
 by_cases hi:i < l.length
 ·have w1:=wrap_succ (i:=i) (by omega)
  obtain ⟨a,ha⟩:=at_of hi
  obtain ⟨_,ha2⟩:=getE ha
  have h1:=fn1108 [a.typ]
  have h2:=fn1108 a.dom
  have h3:=fn1108 a.idx
  rw [drop_at ha,lastL,lastA] at hp
  simp [s0,s3,s4,hi]
  refine W_dregD w1107 f1107 (by decide) ?_
  unfold w1107 f1107
  simp [s0,s3,s4,hi,ha2,A.cells,cells_eq a.typ]
  refine ⟨by simp [room],?_⟩
  refine CallD.fn h1 (by simp [tms,cells_eq]) (by simp) rfl (by simp) ?_
  simp [ib,s0,s3,s4,hi,ha2,A.cells]
  refine CallD.fn h2 (by simp [tms]) (by simp) rfl (by simp) ?_
  simp [ib,s0,s3,s4,hi,ha2,A.cells]
  refine CallD.fn h3 (by simp [tms]) (by simp) rfl (by simp) ?_
  simp [ib,s0,s3,s4]
  refine realC_n ?_
  simp [s4,w1]
  exact ⟨m - 1,by omega,i + 1,_,by omega,hp,by simp [s0],by simp,by simp⟩
 ·have:i=l.length:=by omega
  subst this
  simp [lastL] at hp
  simp [s0,s3,s4,r1107,ib,hp]
def lastS:Int → List S → Int
 | x,[]=>x
 | x,s :: l=>lastS (best2 true x (best2 true (lastL (-1) s.idx) (T.grL (-1) [s.decType]))) l
def lastK:Int → List K → Int
 | x,[]=>x
 | x,c :: l=>lastK (best2 true x (best2 true (lastL (-1) c.args) (best2 true (T.grL (-1) [c.dec]) (T.grL (-1) c.idx)))) l
def J1072a (b:B) (m:Nat) (σ:St):Prop:=∃ (i:Nat) (x:Int),i + m=b.sorts.length ∧ lastS x (b.sorts.drop i)=lastS (-1) b.sorts ∧ σ.sl 1=.c (.ref 1072001 (σ.tg 1072001) 0) ∧ σ.ob 1072001=some (.box 68 b.cells) ∧ σ.sl 3=.c (.v (.int .i64 x)) ∧ σ.sl 4=.c (.v (.int .i64 i))
def J1072b (b:B) (y:Int) (m:Nat) (σ:St):Prop:=∃ (i:Nat) (x:Int),i + m=b.cons.length ∧ lastK x (b.cons.drop i)=lastK y b.cons ∧ σ.sl 1=.c (.ref 1072001 (σ.tg 1072001) 0) ∧ σ.ob 1072001=some (.box 68 b.cells) ∧ σ.sl 3=.c (.v (.int .i64 x)) ∧ σ.sl 5=.c (.v (.int .i64 i))
theorem fn1072 (b:B):Fn Tryz.prog 72 [bm b] (ib (lastK (lastS (-1) b.sorts) b.cons)):=by
 refine fn_of (base:=1072000) ok1072 rfl fun σ h0 hr=>?_
 have s0:σ.sl 0=bm b:=h0 0
 have hl1:=real_b1 (hr (bm b) (by simp))
 have hl2:=real_b2 (hr (bm b) (by simp))
 simp only [bm,B.cells] at s0
 clear h0 hr
 unfold c1072
 simp [s0,-W_block]
 rw [W_block]
 refine W_loop (J1072a b) b.sorts.length ⟨0,-1,by simp,by simp,by simp,by simp [B.cells],by simp,by simp⟩ ?_
 clear s0 σ
 rintro m σ ⟨i,x,hm,hp,s1,o1,s3,s4⟩
 have o1':=o1
 simp only [B.cells] at o1
 unfold c1072b0
 by_cases hi:i < b.sorts.length
 ·have w1:=wrap_succ (i:=i) (by omega)
  obtain ⟨s,hs⟩:=at_of hi
  obtain ⟨_,hs2⟩:=getE hs
  rw [drop_at hs,lastS] at hp
  simp [s1,o1,s3,s4,hi]
  refine W_dregD w1072a f1072a (by decide) ?_
  unfold w1072a f1072a
  simp [s1,o1,s3,s4,hi,hs2,S.cells,cells_eq s.decType]
  refine CallD.fn (fn1107 s.idx) (by simp [ams]) (by simp) rfl (by simp) ?_
  simp [ib,s1,o1,s3,s4,hi,hs2,S.cells,cells_eq s.decType]
  refine ⟨by simp [room],?_⟩
  refine CallD.fn (fn1108 [s.decType]) (by simp [tms,cells_eq]) (by simp) rfl (by simp) ?_
  simp [ib,s1,o1,s3,s4]
  refine realC_n ?_
  simp [s4,w1]
  exact ⟨m - 1,by omega,i + 1,_,by omega,hp,by simp [s1],by simp [o1'],by simp,by simp⟩
 ·have:i=b.sorts.length:=by omega
  subst this
  simp [lastS] at hp
  simp [s1,o1,s3,s4,-W_block]
  rw [W_block]
  rw [← hp]
  refine W_loop (J1072b b x) b.cons.length ⟨0,x,by simp,by simp,by simp [s1],by simp [o1'],by simp [s3],by simp⟩ ?_
  clear s1 o1 o1' s3 s4 hm hi σ
  rintro m σ ⟨i,x',hm,hp,s1,o1,s3,s5⟩
  have o1':=o1
  simp only [B.cells] at o1
  unfold c1072b1
  by_cases hi:i < b.cons.length
  ·have w1:=wrap_succ (i:=i) (by omega)
   obtain ⟨c,hc⟩:=at_of hi
   obtain ⟨_,hc2⟩:=getE hc
   rw [drop_at hc,lastK] at hp
   simp [s1,o1,s3,s5,hi]
   refine W_dregD w1072b f1072b (by decide) ?_
   unfold w1072b f1072b
   simp [s1,o1,s3,s5,hi,hc2,K.cells,cells_eq c.dec]
   refine CallD.fn (fn1107 c.args) (by simp [ams]) (by simp) rfl (by simp) ?_
   simp [ib,s1,o1,s3,s5,hi,hc2,K.cells,cells_eq c.dec]
   refine ⟨by simp [room],?_⟩
   refine CallD.fn (fn1108 [c.dec]) (by simp [tms,cells_eq]) (by simp) rfl (by simp) ?_
   simp [ib,s1,o1,s3,s5,hi,hc2,K.cells]
   refine CallD.fn (fn1108 c.idx) (by simp [tms]) (by simp) rfl (by simp) ?_
   simp [ib,s1,o1,s3,s5]
   refine realC_n ?_
   simp [s5,w1]
   exact ⟨m - 1,by omega,i + 1,_,by omega,hp,by simp [s1],by simp [o1'],by simp,by simp⟩
  ·have:i=b.cons.length:=by omega
   subst this
   simp [lastK] at hp
   simp [s1,o1,s3,s5,r1072,ib,hp]
end Go.Abs

namespace Go.Abs
open Go.Proofs
structure Up (P:Int → Prop) (a x:Int):Prop where
 lo:a ≤ x
 hi:∀ n,P n → n ≤ x
 at':x=a ∨ P x
theorem Up.uniq {P:Int → Prop} {a x y:Int} (h:Up P a x) (h':Up P a y):x=y:=by
 have h1:=h.lo
 have h2:=h'.lo
 have h3:x ≤ y:=by
  rcases h.at' with e | e
  ·omega
  ·exact h'.hi x e
 have h4:y ≤ x:=by
  rcases h'.at' with e | e
  ·omega
  ·exact h.hi y e
 omega
theorem Up.iff {P Q:Int → Prop} {a x:Int} (h:Up P a x) (e:∀ n,P n ↔ Q n):Up Q a x:=⟨h.lo,fun n hn=>h.hi n ((e n).2 hn),h.at'.imp id (e x).1⟩
theorem b2_le (a b:Int):a ≤ best2 true a b ∧ b ≤ best2 true a b ∧ (best2 true a b=a ∨ best2 true a b=b):=by
 simp only [best2,if_true]
 split <;> omega
theorem Up.two {P Q:Int → Prop} {a x y:Int} (h:Up P a x) (h':Up Q (-1) y) (ha:-1 ≤ a):Up (fun n=>P n ∨ Q n) a (best2 true x y):=by
 obtain ⟨b1,b2,b3⟩:=b2_le x y
 have h1:=h.lo
 refine ⟨by omega,fun n hn=>?_,?_⟩
 ·rcases hn with hn | hn
  ·have:=h.hi n hn;omega
  ·have:=h'.hi n hn;omega
 ·rcases b3 with e | e
  ·rw [e]
   exact h.at'.imp id .inl
  ·rw [e]
   rcases h'.at' with e2 | e2
   ·exact .inl (by omega)
   ·exact .inr (.inr e2)
theorem Up.seq {P Q:Int → Prop} {a x y:Int} (h:Up P a x) (h':Up Q x y):Up (fun n=>P n ∨ Q n) a y:=by
 have h1:=h.lo
 have h2:=h'.lo
 refine ⟨by omega,fun n hn=>?_,?_⟩
 ·rcases hn with hn | hn
  ·have:=h.hi n hn;omega
  ·exact h'.hi n hn
 ·rcases h'.at' with e | e
  ·rw [e];exact h.at'.imp id .inl
  ·exact .inr (.inr e)
theorem Up.none {P:Int → Prop} (a:Int) (h:∀ n,¬ P n):Up P a a:=⟨Int.le_refl _,fun n hn=>absurd hn (h n),.inl rfl⟩
def HasL (l:List T) (n:Int):Prop:=∃ t,t ∈ l ∧ t.hasC n=true
theorem hasL_cons {t:T} {l:List T} {n:Int}:HasL (t :: l) n ↔ t.hasC n=true ∨ HasL l n:=by simp [HasL]
theorem hasL_app {l m:List T} {n:Int}:HasL (l ++ m) n ↔ HasL l n ∨ HasL m n:=by
 simp only [HasL,List.mem_append]
 constructor
 ·rintro ⟨t,h | h,e⟩
  ·exact .inl ⟨t,h,e⟩
  ·exact .inr ⟨t,h,e⟩
 ·rintro (⟨t,h,e⟩ | ⟨t,h,e⟩)
  ·exact ⟨t,.inl h,e⟩
  ·exact ⟨t,.inr h,e⟩
theorem hasL_nil {n:Int}:¬ HasL [] n:=by simp [HasL]
theorem hasC_mk {k m n:Int} {ts:List T}:(T.mk k m ts).hasC n=true ↔ (k=3 ∧ n=m) ∨ HasL ts n:=by
 simp only [T.hasC,Bool.or_eq_true,Bool.and_eq_true,decide_eq_true_eq]
 rw [hasCL_any,List.any_eq_true]
 constructor
 ·rintro (⟨a,b⟩ | h)
  ·exact .inl ⟨a,by omega⟩
  ·exact .inr h
 ·rintro (⟨a,b⟩ | h)
  ·exact .inl ⟨a,by omega⟩
  ·exact .inr h
theorem grL_up:∀ {ts:List T},(∀ t,t ∈ ts → ∀ a,-1 ≤ a → Up (fun n=>t.hasC n=true) a (t.gr a)) → ∀ a,-1 ≤ a → Up (HasL ts) a (T.grL a ts)
 | [],_,a,_=>by rw [T.grL];exact Up.none a fun n=>hasL_nil
 | t :: l,h,a,ha=>by
  rw [T.grL]
  have h1:=h t (by simp) a ha
  have h2:=grL_up (ts:=l) (fun u hu=>h u (by simp [hu])) (t.gr a) (by have:=h1.lo;omega)
  exact (h1.seq h2).iff fun n=>hasL_cons.symm
theorem gr_up' (t:T):∀ a,-1 ≤ a → Up (fun n=>t.hasC n=true) a (t.gr a):=by
 induction t using T.ind with
 | h k m ts ih=>
 intro a ha
 rw [T.gr]
 have h2:=grL_up ih (-1) (by omega)
 by_cases k3:k=3
 ·rw [if_pos k3]
  have h1:Up (fun n=>n=m) a (best2 true a m):=by
   obtain ⟨b1,b2,b3⟩:=b2_le a m
   exact ⟨b1,fun n hn=>by rw [hn];exact b2,b3⟩
  exact (h1.two h2 ha).iff fun n=>by rw [hasC_mk];simp [k3]
 ·rw [if_neg k3]
  have h1:Up (fun _=>False) a a:=Up.none a fun _ h=>h
  exact (h1.two h2 ha).iff fun n=>by rw [hasC_mk];simp [k3]
theorem grL_all (ts:List T):Up (HasL ts) (-1) (T.grL (-1) ts):=grL_up (fun t _=>gr_up' t) (-1) (by omega)
theorem lastA_up (a:A):Up (HasL (aTerms a)) (-1) (lastA a):=by
 have h:=(grL_all [a.typ]).two ((grL_all a.dom).two (grL_all a.idx) (by omega)) (by omega)
 exact h.iff fun n=>by simp [aTerms,hasL_cons,hasL_app,hasL_nil]
theorem lastL_up:∀ (l:List A) (x:Int),-1 ≤ x → Up (HasL (tOf l)) x (lastL x l)
 | [],x,_=>by rw [lastL];exact Up.none x fun n=>hasL_nil
 | a :: l,x,hx=>by
  rw [lastL]
  have h1:Up (fun _=>False) x x:=Up.none x fun _ h=>h
  have h2:=h1.two (lastA_up a) hx
  have h3:=lastL_up l (best2 true x (lastA a)) (by have:=h2.lo;omega)
  exact (h2.seq h3).iff fun n=>by simp [tOf,hasL_app]
theorem lastS_up:∀ (l:List S) (x:Int),-1 ≤ x → Up (HasL (sT l)) x (lastS x l)
 | [],x,_=>by rw [lastS];exact Up.none x fun n=>hasL_nil
 | s :: l,x,hx=>by
  rw [lastS]
  have h1:Up (fun _=>False) x x:=Up.none x fun _ h=>h
  have h2:=h1.two ((lastL_up s.idx (-1) (by omega)).two (grL_all [s.decType]) (by omega)) hx
  have h3:=lastS_up l (best2 true x (best2 true (lastL (-1) s.idx) (T.grL (-1) [s.decType]))) (by have:=h2.lo;omega)
  exact (h2.seq h3).iff fun n=>by simp [sT,tsS,hasL_app,hasL_cons,hasL_nil,or_assoc,or_comm,or_left_comm]
theorem lastK_up:∀ (l:List K) (x:Int),-1 ≤ x → Up (HasL (kT l)) x (lastK x l)
 | [],x,_=>by rw [lastK];exact Up.none x fun n=>hasL_nil
 | c :: l,x,hx=>by
  rw [lastK]
  have h1:Up (fun _=>False) x x:=Up.none x fun _ h=>h
  have h2:=h1.two ((lastL_up c.args (-1) (by omega)).two ((grL_all [c.dec]).two (grL_all c.idx) (by omega)) (by omega)) hx
  have h3:=lastK_up l (best2 true x (best2 true (lastL (-1) c.args) (best2 true (T.grL (-1) [c.dec]) (T.grL (-1) c.idx)))) (by have:=h2.lo;omega)
  exact (h2.seq h3).iff fun n=>by simp [kT,tsK,hasL_app,hasL_cons,hasL_nil,or_assoc,or_comm,or_left_comm]
theorem maxF_up:∀ (l:List Int) (m:Int),Up (fun n=>n ∈ l) m (maxF m l)
 | [],m=>by rw [maxF];exact Up.none m fun n h=>by cases h
 | x :: l,m=>by
  rw [maxF]
  have h1:Up (fun n=>n=x) m (best2 true m x):=by
   obtain ⟨b1,b2,b3⟩:=b2_le m x
   exact ⟨b1,fun n hn=>by rw [hn];exact b2,b3⟩
  exact (h1.seq (maxF_up l _)).iff fun n=>by simp
theorem maxC_up (t:T):Up (fun n=>t.hasC n=true) (-1) (maxC t):=by
 have hc:=(consts_facts t).2
 unfold maxC
 cases h:t.consts with
 | nil=>
  rw [h] at hc
  exact Up.none _ fun n hn=>by have:=(hc n).2 hn;cases this
 | cons x r=>
  rw [h] at hc
  show Up _ (-1) (maxF x (r ++ [-1]))
  have hu:=maxF_up (r ++ [-1]) x
  have h1:-1 ≤ maxF x (r ++ [-1]):=hu.hi (-1) (by simp)
  refine ⟨h1,fun n hn=>?_,?_⟩
  ·have hn:=(hc n).2 hn
   rcases List.mem_cons.1 hn with rfl | hn
   ·exact hu.lo
   ·exact hu.hi n (by simp [hn])
  ·rcases hu.at' with e | e
   ·exact .inr ((hc _).1 (by simp [e]))
   ·rcases List.mem_append.1 e with e | e
    ·exact .inr ((hc _).1 (by simp [e]))
    ·simp at e;exact .inl e
theorem nameF_up:∀ (l:List T) (m:Int),-1 ≤ m → Up (HasL l) m (nameF m l)
 | [],m,_=>by rw [nameF];exact Up.none m fun n=>hasL_nil
 | t :: l,m,hm=>by
  rw [nameF]
  have h1:Up (fun _=>False) m m:=Up.none m fun _ h=>h
  have h2:=h1.two (maxC_up t) hm
  exact (h2.seq (nameF_up l _ (by have:=h2.lo;omega))).iff fun n=>by rw [hasL_cons];simp
theorem last_names (b:B):lastK (lastS (-1) b.sorts) b.cons=b.names:=by
 have h1:=lastS_up b.sorts (-1) (by omega)
 have h2:=lastK_up b.cons _ (by have:=h1.lo;omega)
 have h3:=nameF_up b.terms (-1) (by omega)
 exact (h1.seq h2).uniq (h3.iff fun n=>by rw [B.terms,hasL_app])
end Go.Abs

namespace Go.Abs
open Go.Proofs
def sameE (e x:En):Bool:=decide (2 < x.kind) && decide (x.base=e.base)
def elderI (l:List En) (i:Nat) (e:En):Int:=if 2 < e.kind then (match (l.take i).findIdx? (sameE e) with | some k=>(k:Int) | none=>-1) else -1
def J1046 (l:List En) (i:Nat) (e:En) (m:Nat) (σ:St):Prop:=∃ k:Nat,k + m=i ∧ (∀ j x,j < k → l[j]? = some x → sameE e x=false) ∧ σ.sl 0=.c (.sl 12 160 (l.map En.cells)) ∧ σ.sl 1=.c (.v (.int .i64 i)) ∧ σ.sl 5=.c (.v (.int .i64 k))
theorem elder_some {l:List En} {i k:Nat} {e x:En} (he:2 < e.kind) (hk:k < i) (hx:l[k]? = some x) (hs:sameE e x=true) (hn:∀ j y,j < k → l[j]? = some y → sameE e y=false):elderI l i e=k:=by
 have hkl:=(List.getElem?_eq_some_iff.1 hx).1
 have:(l.take i).findIdx? (sameE e)=some k:=by
  rw [List.findIdx?_eq_some_iff_getElem]
  refine ⟨by simp;omega,?_,fun j hj=>?_⟩
  ·rw [List.getElem_take]
   obtain ⟨_,h2⟩:=getE hx
   rw [h2];exact hs
  ·rw [List.getElem_take]
   have:=hn j l[j] (by omega) (List.getElem?_eq_getElem (by omega))
   simp [this]
 rw [elderI,if_pos he,this]
theorem elder_none {l:List En} {i:Nat} {e:En} (hn:∀ j x,j < i → l[j]? = some x → sameE e x=false):elderI l i e=-1:=by
 unfold elderI
 split
 ·have:(l.take i).findIdx? (sameE e)=none:=by
   rw [List.findIdx?_eq_none_iff]
   intro x hx
   obtain ⟨j,hj⟩:=List.mem_iff_getElem?.1 hx
   rw [List.getElem?_take] at hj
   split at hj
   ·exact hn j x (by assumption) hj
   ·cases hj
  rw [this]
 ·rfl
theorem fn1046 (l:List En) (i:Nat) (e:En) (he:l[i]? = some e):Fn Tryz.prog 46 [ens l,ib i] (ib (elderI l i e)):=by
 refine fn_of (base:=1046000) ok1046 rfl fun σ h0 hr=>?_
 have s0:σ.sl 0=.c (.sl 12 160 (l.map En.cells)):=h0 0
 have s1:σ.sl 1=.c (.v (.int .i64 i)):=h0 1
 have hl:=real_ens (hr (ens l) (by simp))
 clear h0 hr
 obtain ⟨hil,he2⟩:=getE he
 unfold c1046
 simp [s0,s1,-W_block]
 rw [W_block]
 refine W_loop (J1046 l i e) i ⟨0,by simp,by simp,by simp [s0],by simp [s1],by simp⟩ ?_
 clear s0 s1 σ
 rintro m σ ⟨k,hm,hn,s0,s1,s5⟩
 unfold c1046b0
 by_cases hk:k < i
 ·by_cases he3:2 < e.kind
  ·have w1:=wrap_succ (i:=k) (by omega)
   obtain ⟨x,hx⟩:=at_of (ts:=l) (i:=k) (by omega)
   obtain ⟨hkl,hx2⟩:=getE hx
   have go:∀ {σ':St},sameE e x=false → σ'.sl 0=.c (.sl 12 160 (l.map En.cells)) → σ'.sl 1=.c (.v (.int .i64 i)) → σ'.sl 5=.c (.v (.int .i64 ((k + 1:Nat):Int))) → ∃ m',m' < m ∧ J1046 l i e m' σ':=fun h a b c=>⟨m - 1,by omega,k + 1,by omega,fun j y hj hy=>by
    by_cases hjk:j=k
    ·subst hjk;rw [hx] at hy;cases hy;exact h
    ·exact hn j y (by omega) hy,a,b,c⟩
   simp [s0,s1,s5,hk,hil,he2,En.cells,he3]
   refine W_dregA ?_
   by_cases c1:2 < x.kind
   ·by_cases c2:x.base=e.base
    ·have:=elder_some he3 hk hx (by simp [sameE,c1,c2]) hn
     simp [s0,s1,s5,hkl,hx2,hil,he2,En.cells,c1,c2]
     refine realC_n ?_
     simp [r1046,ib,this,s5]
    ·simp [s0,s1,s5,hkl,hx2,hil,he2,En.cells,c1,c2]
     refine realC_n ?_
     simp [s5,w1]
     exact go (by simp [sameE,c2]) (by simp [s0]) (by simp [s1]) (by simp)
   ·simp [s0,s1,s5,hkl,hx2,hil,he2,En.cells,c1]
    refine realC_n ?_
    simp [s5,w1]
    exact go (by simp [sameE,c1]) (by simp [s0]) (by simp [s1]) (by simp)
  ·have:elderI l i e=-1:=by rw [elderI,if_neg he3]
   simp [s0,s1,s5,hk,hil,he2,En.cells,he3,r1046,ib,this]
 ·have:k=i:=by omega
  subst this
  have:=elder_none hn
  simp [s0,s1,s5,hil,he2,En.cells,r1046,ib,this]
end Go.Abs

namespace Go.Abs
open Go.Proofs
theorem all2_eq {α:Type} {p:α → α → Bool} (h:∀ a b,p a b=true → a=b):∀ {l m:List α},all2 p l m=true → l=m
 | [],[],_=>rfl
 | a :: l,b :: m,e=>by
  simp only [all2,Bool.and_eq_true] at e
  rw [h a b e.1,all2_eq h e.2]
 | [],_ :: _,e=>by simp [all2] at e
 | _ :: _,[],e=>by simp [all2] at e
theorem eqb_t {t u:T} (h:T.eqb t u=true):t=u:=(eqb_eq t u).1 h
theorem eqb_ts {ts us:List T} (h:T.eqbL ts us=true):ts=us:=by
 rw [eqbL_all2] at h
 exact all2_eq (fun _ _=>eqb_t) h
theorem eqb_a {a b:A} (h:a.eqb b=true):a=b:=by
 obtain ⟨a1,a2,a3,a4,a5⟩:=a
 obtain ⟨b1,b2,b3,b4,b5⟩:=b
 simp only [A.eqb,Bool.and_eq_true,decide_eq_true_eq,beq_iff_eq] at h
 obtain ⟨⟨⟨⟨h1,h2⟩,h3⟩,h4⟩,h5⟩:=h
 rw [h1,eqb_t h2,eqb_ts h3,h4,eqb_ts h5]
theorem eqb_k {a b:K} (h:a.eqb b=true):a=b:=by
 obtain ⟨a1,a2,a3,a4⟩:=a
 obtain ⟨b1,b2,b3,b4⟩:=b
 simp only [K.eqb,Bool.and_eq_true,decide_eq_true_eq,beq_iff_eq] at h
 obtain ⟨⟨⟨h1,h2⟩,h3⟩,h4⟩:=h
 rw [h1,all2_eq (fun _ _=>eqb_a) h2,eqb_ts h3,eqb_t h4]
theorem eqb_s {a b:S} (h:a.eqb b=true):a=b:=by
 obtain ⟨a1,a2,a3,a4⟩:=a
 obtain ⟨b1,b2,b3,b4⟩:=b
 simp only [S.eqb,Bool.and_eq_true,decide_eq_true_eq,beq_iff_eq] at h
 obtain ⟨⟨⟨h1,h2⟩,h3⟩,h4⟩:=h
 rw [all2_eq (fun _ _=>eqb_a) h1,h2,h3,eqb_t h4]
theorem eqb_b {a b:B} (h:a.eqb b=true):a=b:=by
 obtain ⟨a1,a2,a3⟩:=a
 obtain ⟨b1,b2,b3⟩:=b
 simp only [B.eqb,Bool.and_eq_true,decide_eq_true_eq] at h
 obtain ⟨⟨h1,h2⟩,h3⟩:=h
 rw [h1,all2_eq (fun _ _=>eqb_s) h2,all2_eq (fun _ _=>eqb_k) h3]
theorem bare_eqb (b:B):b.eqb ⟨[],[],0⟩=b.bare:=by
 obtain ⟨s,c,n⟩:=b
 cases s <;> cases c <;> simp [B.eqb,B.bare,all2]
def entP (e:En) (i:Int) (first:Bool):Bool:=
 btw e.kind 1 6 && (e.typ.scope 0 i && ((if e.kind=2 then e.body.scope 0 i else e.body.none) &&
  (if e.kind=1 ∨ e.kind=2 then decide (e.base=0) && (decide (e.which=0) && e.block.bare) else (!first || e.block.known e.base) && decide (e.number=i))))
theorem fn1047 (e:En) (i:Int) (first:Bool) (hO:e.Ok):Fn Tryz.prog 47 [enm e,ib i,bb first] (bb (entP e i first)):=by
 refine fn_of (base:=1047000) ok1047 rfl fun σ h0 hr=>?_
 have s0:σ.sl 0=enm e:=h0 0
 have s1:σ.sl 1=.c (.v (.int .i64 i)):=h0 1
 have s2:σ.sl 2=.c (.v (.bool first)):=h0 2
 obtain ⟨hb1,hb2⟩:=real_enb (hr (enm e) (by simp))
 simp only [enm,En.cells] at s0
 clear h0 hr
 have hty:=fn58 e.typ 0 i
 have hbo:=fn58 e.body 0 i
 rw [← scope_rscope hO.typ.1] at hty
 rw [← scope_rscope hO.body.1] at hbo
 have hno:=fn1070 e.body
 unfold c1047
 simp [s0,s1,s2]
 refine ECall.fn (fn1068 e.kind 1 6) (by simp [ib]) (by simp) rfl fun _=>?_
 cases hk:btw e.kind 1 6 with
 | false=>
  simp [bb,s1]
  refine GCall.fn (res:=bb true) (fun h=>by cases h) rfl (by simp) rfl fun _=>?_
  simp [bb,r1047,entP,hk]
 | true=>
  have hk2:1 ≤ e.kind ∧ e.kind ≤ 6:=by simpa [btw] using hk
  simp [bb,s1]
  refine GCall.fn (fun _=>hty) (by simp [tm,ib,cells_eq]) (by simp) rfl fun _=>?_
  cases hs:e.typ.scope 0 i with
  | false=>simp [bb,r1047,entP,hs]
  | true=>
   by_cases k2:e.kind=2
   ·have hdef:entP e i first=(e.body.scope 0 i && (decide (e.base=0) && (decide (e.which=0) && e.block.bare))):=by simp [entP,hk,hs,k2,show btw 2 1 6=true from rfl]
    simp [bb,s1,k2]
    refine GCall.fn (fun _=>hbo) (by simp [tm,ib,cells_eq]) (by simp) rfl fun _=>?_
    cases hb:e.body.scope 0 i with
    | false=>
     simp [bb,k2]
     refine GCall.fn (res:=bb true) (fun h=>by cases h) rfl (by simp) rfl fun _=>?_
     simp [bb,r1047,hdef,hb]
    | true=>
     simp [bb,k2]
     refine GCall.fn (res:=bb true) (fun h=>by cases h) rfl (by simp) rfl fun _=>?_
     simp [bb,k2]
     by_cases b0:e.base=0
     ·by_cases b1:e.which=0
      ·simp [b0,b1]
       refine GCall.fn (fun _=>fn86 e.block ⟨[],[],0⟩) (by simp [bm,B.cells,toD2,toD1,toD]) (by simp) rfl fun _=>?_
       simp [bb,r1047,hdef,hb,b0,b1,bare_eqb]
      ·simp [b0,b1]
       refine GCall.fn (res:=bb true) (fun h=>by cases h) rfl (by simp) rfl fun _=>?_
       simp [bb,r1047,hdef,hb,b0,b1]
     ·simp [b0]
      refine GCall.fn (res:=bb true) (fun h=>by cases h) rfl (by simp) rfl fun _=>?_
      simp [bb,r1047,hdef,hb,b0]
   ·simp [bb,s1,k2]
    refine GCall.fn (res:=bb true) (fun h=>by cases h) rfl (by simp) rfl fun _=>?_
    simp [bb,k2]
    refine GCall.fn (fun _=>hno) (by simp [tm,cells_eq]) (by simp) rfl fun _=>?_
    cases hb:e.body.none with
    | false=>simp [bb,r1047,entP,k2,hb]
    | true=>
     by_cases k1:e.kind=1
     ·have hdef:entP e i first=(decide (e.base=0) && (decide (e.which=0) && e.block.bare)):=by simp [entP,hk,hs,k2,hb,k1,show btw 1 1 6=true from rfl]
      simp [bb,k1]
      by_cases b0:e.base=0
      ·by_cases b1:e.which=0
       ·simp [b0,b1]
        refine GCall.fn (fun _=>fn86 e.block ⟨[],[],0⟩) (by simp [bm,B.cells,toD2,toD1,toD]) (by simp) rfl fun _=>?_
        simp [bb,r1047,hdef,b0,b1,bare_eqb]
       ·simp [b0,b1]
        refine GCall.fn (res:=bb true) (fun h=>by cases h) rfl (by simp) rfl fun _=>?_
        simp [bb,r1047,hdef,b0,b1]
      ·simp [b0]
       refine GCall.fn (res:=bb true) (fun h=>by cases h) rfl (by simp) rfl fun _=>?_
       simp [bb,r1047,hdef,b0]
     ·have hdef:entP e i first=((!first || e.block.known e.base) && decide (e.number=i)):=by simp [entP,hk,hs,k2,hb,k1]
      simp [bb,k1,k2]
      have hcnt:(e.block.count:Int) ≤ 100000000000000:=by
       have:=decs_le e.block.sorts e.block.sorts.length
       simp only [B.count];omega
      have hpo:=fn1071 e.block e.base hO.block
      have hla:=fn1072 e.block
      rw [last_names] at hla
      refine W_cut (fun σ'=>σ'.sl 82=.c (.v (.bool (first && !e.block.known e.base))) ∧ σ'.sl 1=.c (.v (.int .i64 i)) ∧ σ'.sl 3=.c (.ref 1047003 (σ'.tg 1047003) 0) ∧ σ'.ob 1047003=some (.box 70 e.cells)) ?_ ?_
      ·refine W_dregA ?_
       cases first with
       | false=>
        simp [s2]
        refine GCallA.fn (res:=ib 0) (fun h=>by cases h) rfl (by simp) rfl ?_
        simp [ib]
        refine GCallA.fn (res:=ib 0) (fun h=>by cases h) rfl (by simp) rfl ?_
        simp [ib]
        refine GCallA.fn (res:=ib 0) (fun h=>by cases h) rfl (by simp) rfl ?_
        simp [ib]
        refine realC_n ?_
        simp [s1,En.cells]
       | true=>
        simp [s2]
        refine GCallA.fn (fun _=>hpo) (by simp [bm,B.cells,ib]) (by simp) rfl ?_
        by_cases hp0:e.block.posit e.base=0
        ·obtain ⟨_,_,pb0,pb1⟩:=posit_facts hp0
         have w1:IntKind.wrap .i64 (e.base + (e.block.count:Int))=e.base + (e.block.count:Int):=wrap_id (by omega) (by omega)
         simp [ib,hp0]
         refine GCallA.fn (fun _=>hla) (by simp [bm,B.cells]) (by simp) rfl ?_
         simp [ib]
         refine GCallA.fn (fun _=>fn1073 e.block) (by simp [bm,B.cells]) (by simp) rfl ?_
         by_cases hnm:e.block.names < e.base + e.block.count
         ·have hnm':¬ e.base + (e.block.count:Int) ≤ e.block.names:=by omega
          simp [ib,w1,hnm']
          refine realC_n ?_
          simp [s1,En.cells,B.known,hp0,hnm]
         ·have hnm':e.base + (e.block.count:Int) ≤ e.block.names:=by omega
          simp [ib,w1,hnm']
          refine realC_n ?_
          simp [s1,En.cells,B.known,hp0,hnm,hnm']
        ·simp [ib,hp0]
         refine GCallA.fn (res:=ib 0) (fun h=>by cases h) rfl (by simp) rfl ?_
         simp [ib]
         refine GCallA.fn (res:=ib 0) (fun h=>by cases h) rfl (by simp) rfl ?_
         simp [ib]
         refine realC_n ?_
         simp [s1,En.cells,B.known,hp0]
      ·rintro σ' ⟨q82,q1,q3,o3⟩
       simp only [En.cells] at o3
       cases hz:(first && !e.block.known e.base) with
       | true=>
        have hz':(!first || e.block.known e.base)=false:=by
         revert hz;cases first <;> cases e.block.known e.base <;> simp
        rw [hz] at q82
        simp [q82,r1047,bb,hdef,hz']
       | false=>
        have hz':(!first || e.block.known e.base)=true:=by
         revert hz;cases first <;> cases e.block.known e.base <;> simp
        rw [hz] at q82
        rw [hz',Bool.true_and] at hdef
        by_cases k3:e.kind=3
        ·have hn:e.number=e.block.former e.base e.which:=by simp [En.number,k3]
         simp [q82,q1,q3,o3,k3]
         refine ECall.fn (fn1074 e.block e.base e.which) (by simp [bm,B.cells,ib]) (by simp) rfl fun _=>?_
         simp [ib,q1,r1047,bb,hdef,hn]
        by_cases k4:e.kind=4
        ·have hn:e.number=e.block.decoder e.base e.which:=by simp [En.number,k4]
         simp [q82,q1,q3,o3,k3,k4]
         refine ECall.fn (fn1075 e.block e.base e.which) (by simp [bm,B.cells,ib]) (by simp) rfl fun _=>?_
         simp [ib,q1,r1047,bb,hdef,hn]
        by_cases k5:e.kind=5
        ·have hn:e.number=e.block.constr e.base e.which:=by simp [En.number,k5]
         simp [q82,q1,q3,o3,k3,k4,k5]
         refine ECall.fn (fn1076 e.block e.base e.which) (by simp [bm,B.cells,ib]) (by simp) rfl fun _=>?_
         simp [ib,q1,r1047,bb,hdef,hn]
        have k6:e.kind=6:=by omega
        have hn:e.number=e.block.elimn e.base e.which:=by simp [En.number,k6]
        simp [q82,q1,q3,o3,k6]
        refine ECall.fn (fn1077 e.block e.base e.which) (by simp [bm,B.cells,ib]) (by simp) rfl fun _=>?_
        simp [ib,q1,r1047,bb,hdef,hn]
end Go.Abs

namespace Go.Abs
open Go.Proofs
def blkAt (l:List En) (k:Int):B:=match l[k.toNat]? with | some x=>x.block | none=>⟨[],[],0⟩
def badR (l:List En) (i:Nat) (e:En):Bool:=!entP e i (decide (elderI l i e < 0)) || (decide (0 ≤ elderI l i e) && !(blkAt l (elderI l i e)).eqb e.block)
def refE (l:List En):List En → Nat → Int
 | [],_=>0
 | e :: r,i=>if badR l i e then 12 else refE l r (i + 1)
def refR (l:List En):Int:=if 200 < l.length then 13 else refE l l 0
theorem elder_range (l:List En) (i:Nat) (e:En) (hi:i ≤ l.length):elderI l i e=-1 ∨ ∃ k:Nat,elderI l i e=k ∧ k < i ∧ ∃ x,l[k]? = some x:=by
 unfold elderI
 split
 ·cases h:(l.take i).findIdx? (sameE e) with
  | none=>exact .inl rfl
  | some k=>
   rw [List.findIdx?_eq_some_iff_getElem] at h
   obtain ⟨h1,_⟩:=h
   simp at h1
   exact .inr ⟨k,rfl,by omega,l[k],List.getElem?_eq_getElem (by omega)⟩
 ·exact .inl rfl
def J1022 (l:List En) (m:Nat) (σ:St):Prop:=∃ i:Nat,i + m=l.length ∧ refE l (l.drop i) i=refE l l 0 ∧ σ.sl 0=.c (.sl 12 160 (l.map En.cells)) ∧ σ.sl 3=.c (.v (.int .i64 i))
theorem fn1022 (l:List En) (hO:∀ e,e ∈ l → e.Ok):Fn Tryz.prog 22 [ens l] (ib (refR l)):=by
 refine fn_of (base:=1022000) ok1022 rfl fun σ h0 hr=>?_
 have s0:σ.sl 0=.c (.sl 12 160 (l.map En.cells)):=h0 0
 have hl0:=real_ens (hr (ens l) (by simp))
 clear h0 hr
 unfold c1022
 by_cases hl:200 < l.length
 ·have hl':(200:Int) < l.length:=by omega
  simp [s0,hl',r1022,ib,refR,hl]
 have hl':¬ (200:Int) < l.length:=by omega
 have hdef:refR l=refE l l 0:=by rw [refR,if_neg hl]
 rw [hdef]
 simp [s0,hl',-W_block]
 rw [W_block]
 refine W_loop (J1022 l) l.length ⟨0,by simp,by simp,by simp [s0],by simp⟩ ?_
 clear s0 σ
 rintro m σ ⟨i,hm,hp,s0,s3⟩
 unfold c1022b0
 by_cases hi:i < l.length
 ·have w1:=wrap_succ (i:=i) (by omega)
  obtain ⟨e,he⟩:=at_of hi
  obtain ⟨_,he2⟩:=getE he
  have heo:=hO e (List.mem_of_getElem? he)
  rw [drop_at he,refE] at hp
  have bad:badR l i e=true → refE l l 0=12:=fun h=>by rw [if_pos h] at hp;exact hp.symm
  have go:∀ {σ':St},badR l i e=false → σ'.sl 0=.c (.sl 12 160 (l.map En.cells)) → σ'.sl 3=.c (.v (.int .i64 ((i + 1:Nat):Int))) → ∃ m',m' < m ∧ J1022 l m' σ':=fun h a b=>⟨m - 1,by omega,i + 1,by omega,by rw [h] at hp;simpa using hp,a,b⟩
  have hent:=fun f=>fn1047 e i f heo
  simp [s0,s3,hi]
  refine ECall.fn (fn1046 l i e he) (by simp [ens,ib]) (by simp) rfl fun _=>?_
  have hbd:badR l i e=badR l i e:=rfl
  conv at hbd=>rhs;unfold badR
  rcases elder_range l i e (by omega) with hk | ⟨k,hk,hki,x,hx⟩
  ·rw [hk] at hbd ⊢
   have hbd:badR l i e=!entP e i true:=by rw [hbd];simp
   obtain ⟨x0,hx0⟩:=at_of (ts:=l) (i:=0) (by omega)
   obtain ⟨hl00,hx02⟩:=getE hx0
   simp [ib]
   refine W_dregA ?_
   simp [s0,s3,hi,he2,En.cells]
   refine CallA.fn (hent true) (by simp [enm,En.cells,ib,bb]) (by simp) rfl ?_
   cases hq:entP e i true with
   | false=>
    simp [bb,s0,s3,hi,he2,hx0,hx02,hl00,En.cells]
    refine GCallA.fn (res:=bb true) (fun h=>by cases h) rfl (by simp) rfl ?_
    simp [bb]
    refine realC_n ?_
    simp [r1022,ib,bad (by rw [hbd,hq];rfl)]
   | true=>
    simp [bb,s0,s3,hi,he2,hx0,hx02,hl00,En.cells]
    refine GCallA.fn (res:=bb true) (fun h=>by cases h) rfl (by simp) rfl ?_
    simp [bb]
    refine realC_n ?_
    simp [s3,w1]
    exact go (by rw [hbd,hq];rfl) (by simp [s0]) (by simp)
  ·obtain ⟨hkl,hx2⟩:=getE hx
   have hb0:blkAt l (k:Int)=x.block:=by simp [blkAt,hx]
   rw [hk,hb0] at hbd
   rw [hk]
   have hk0:¬ ((k:Int) < 0):=by omega
   have hbd:badR l i e=(!entP e i false || !(x.block.eqb e.block)):=by rw [hbd];simp [hk0]
   simp [ib]
   refine W_dregA ?_
   simp [s0,s3,hi,he2,En.cells,hk0]
   refine CallA.fn (hent false) (by simp [enm,En.cells,ib,bb]) (by simp) rfl ?_
   cases hq:entP e i false with
   | false=>
    simp [bb,s0,s3,hi,he2,hkl,hx2,En.cells]
    refine GCallA.fn (res:=bb true) (fun h=>by cases h) rfl (by simp) rfl ?_
    simp [bb]
    refine realC_n ?_
    simp [r1022,ib,bad (by rw [hbd,hq];rfl)]
   | true=>
    simp [bb,s0,s3,hi,he2,hkl,hx2,En.cells]
    refine GCallA.fn (fun _=>fn86 x.block e.block) (by simp [bm,B.cells]) (by simp) rfl ?_
    cases hz:x.block.eqb e.block with
    | false=>
     simp [bb]
     refine realC_n ?_
     simp [r1022,ib,bad (by rw [hbd,hq,hz];rfl)]
    | true=>
     simp [bb]
     refine realC_n ?_
     simp [s3,w1]
     exact go (by rw [hbd,hq,hz];rfl) (by simp [s0]) (by simp)
 ·have:i=l.length:=by omega
  subst this
  simp [refE] at hp
  simp [s0,s3,r1022,ib,← hp]
theorem getM_cons (p:Int × B) (ms:BM) (m:Int):getM (p :: ms) m=if p.1=m then some p.2 else getM ms m:=by
 unfold getM
 rw [List.find?_cons]
 by_cases h:p.1=m
 ·simp [h]
 ·have:(p.1 == m)=false:=by simpa using h
  simp [this,h]
theorem setM_cons (p:Int × B) (ms:BM) (n:Int) (b:B):setM (p :: ms) n b=if p.1=n then (n,b) :: ms else p :: setM ms n b:=by
 unfold setM
 rw [List.findIdx?_cons]
 by_cases h:p.1=n
 ·simp [h]
 ·have:(p.1 == n)=false:=by simpa using h
  simp only [this,h,if_false,Bool.false_eq_true]
  cases List.findIdx? (fun p=>p.1 == n) ms with
  | none=>simp
  | some j=>simp
theorem getM_setM (ms:BM) (n m:Int) (b:B):getM (setM ms n b) m=if n=m then some b else getM ms m:=by
 induction ms with
 | nil=>simp [setM,getM_cons,getM]
 | cons p ms ih=>
  rw [setM_cons]
  by_cases h:p.1=n
  ·rw [if_pos h,getM_cons,getM_cons]
   by_cases h2:n=m
   ·simp [h2]
   ·simp [h2,h]
  ·rw [if_neg h,getM_cons,getM_cons,ih]
   by_cases h2:n=m
   ·subst h2;simp [h]
   ·simp [h2]
def isB (base:Int) (x:En):Bool:=decide (2 < x.kind) && decide (x.base=base)
theorem find_idx {α:Type} {p:α → Bool}:∀ {l:List α},(∃ k x,l.findIdx? p=some k ∧ l[k]? = some x ∧ l.find? p=some x) ∨ (l.findIdx? p=none ∧ l.find? p=none)
 | []=>.inr ⟨rfl,rfl⟩
 | a :: l=>by
  rw [List.findIdx?_cons,List.find?_cons]
  cases h:p a with
  | true=>exact .inl ⟨0,a,by simp,by simp,rfl⟩
  | false=>
   rcases find_idx (p:=p) (l:=l) with ⟨k,x,h1,h2,h3⟩ | ⟨h1,h2⟩
   ·exact .inl ⟨k + 1,x,by simp [h1],by simpa using h2,h3⟩
   ·exact .inr ⟨by simp [h1],h2⟩
theorem num_base {e:En} {i:Nat} (h:e.number=(i:Int)):0 ≤ e.base:=by
 unfold En.number at h
 split at h
 ·exact (plcv_val h (by omega)).1
 ·split at h
  ·exact (dec_val h (by omega)).1
  ·split at h
   ·exact (plcv_val h (by omega)).1
   ·exact (plcv_val h (by omega)).1
theorem entP_low {e:En} {i:Nat} (h:e.kind < 3) (f:Bool):entP e i f=e.right i:=by
 unfold entP En.right btw
 by_cases k1:e.kind=1
 ·rw [k1]
  cases e.typ.scope 0 (i:Int) <;> cases e.body.none <;> cases e.block.bare <;> by_cases b0:e.base=0 <;> by_cases b1:e.which=0 <;> simp [b0,b1]
 ·by_cases k2:e.kind=2
  ·rw [k2]
   cases e.typ.scope 0 (i:Int) <;> cases e.body.scope 0 (i:Int) <;> cases e.block.bare <;> by_cases b0:e.base=0 <;> by_cases b1:e.which=0 <;> simp [b0,b1]
  ·have h1:¬ 1 ≤ e.kind:=by omega
   have h3:¬ (e.kind=3 ∨ e.kind=4 ∨ e.kind=5 ∨ e.kind=6):=by omega
   simp [h1,k1,k2,h3]
theorem entP_high {e:En} {i:Nat} (h:¬ e.kind < 3) (f:Bool):entP e i f=(e.right i && (!f || e.block.known e.base)):=by
 unfold entP En.right btw
 have k1:¬ e.kind=1:=by omega
 have k2:¬ e.kind=2:=by omega
 have h1:1 ≤ e.kind:=by omega
 by_cases h6:e.kind ≤ 6
 ·have h3:e.kind=3 ∨ e.kind=4 ∨ e.kind=5 ∨ e.kind=6:=by omega
  by_cases hn:e.number=(i:Int)
  ·have hb:=num_base hn
   simp [h1,h6,k1,k2,h3,hn,hb]
   cases e.typ.scope 0 (i:Int) <;> cases e.body.none <;> simp
  ·simp [h1,h6,k1,k2,h3,hn]
 ·have h3:¬ (e.kind=3 ∨ e.kind=4 ∨ e.kind=5 ∨ e.kind=6):=by omega
  simp [h6,k1,k2,h3]
theorem chk_ref (l:List En):∀ (m i:Nat) (ms:BM),i + m=l.length → (∀ base,getM ms base=((l.take i).find? (isB base)).map En.block) → chkE (l.drop i) i ms=refE l (l.drop i) i
 | 0,i,ms,hm,_=>by rw [List.drop_eq_nil_of_le (by omega)];rfl
 | m + 1,i,ms,hm,hI=>by
  obtain ⟨e,he⟩:=at_of (ts:=l) (i:=i) (by omega)
  rw [drop_at he,chkE,refE]
  have hlow:e.kind < 3 → elderI l i e=-1:=fun h=>by rw [elderI,if_neg (by omega)]
  have htk:=take_succ' he
  by_cases h3:e.kind < 3
  ·have hb:badR l i e=!e.right i:=by
    unfold badR
    rw [hlow h3,entP_low h3]
    simp
   rw [hb]
   cases hr:e.right (i:Int) with
   | false=>simp
   | true=>
    simp [h3]
    refine chk_ref l m (i + 1) ms (by omega) fun base=>?_
    rw [hI base,htk,List.find?_append]
    have:([e].find? (isB base))=none:=by simp [isB];omega
    rw [this];simp
  ·have hse:sameE e=isB e.base:=rfl
   have hel:elderI l i e=match (l.take i).findIdx? (isB e.base) with | some k=>(k:Int) | none=>-1:=by rw [elderI,if_pos (by omega),hse] <;> rfl
   have hfe:([e].find? (isB e.base))=some e:=by simp [isB];omega
   have hother:∀ base,e.base ≠ base → ([e].find? (isB base))=none:=fun base h=>by simp [isB];omega
   rcases find_idx (p:=isB e.base) (l:=l.take i) with ⟨k,x,h1,h2,h4⟩ | ⟨h1,h4⟩
   ·rw [h1] at hel
    simp only at hel
    have hx:l[k]? = some x:=by
     rw [List.getElem?_take] at h2
     split at h2
     ·exact h2
     ·cases h2
    have hg:getM ms e.base=some x.block:=by rw [hI,h4];rfl
    have hb:badR l i e=(!e.right i || !(x.block.eqb e.block)):=by
     unfold badR
     rw [hel,entP_high h3]
     have hk0:¬ ((k:Int) < 0):=by omega
     have:blkAt l (k:Int)=x.block:=by simp [blkAt,hx]
     rw [this]
     simp [hk0]
    rw [hb,hg]
    cases hr:e.right (i:Int) with
    | false=>simp
    | true=>
     cases hz:x.block.eqb e.block with
     | false=>simp [h3,hz]
     | true=>
      simp [h3,hz]
      refine chk_ref l m (i + 1) _ (by omega) fun base=>?_
      rw [getM_setM,htk,List.find?_append]
      by_cases hb2:e.base=base
      ·subst hb2
       rw [h4,if_pos rfl,← eqb_b hz];rfl
      ·rw [if_neg hb2,hI base,hother base hb2];simp
   ·rw [h1] at hel
    simp only at hel
    have hg:getM ms e.base=none:=by rw [hI,h4];rfl
    have hb:badR l i e=(!(e.right i && e.block.known e.base)):=by
     unfold badR
     rw [hel,entP_high h3]
     simp
    rw [hb,hg]
    cases hr:e.right (i:Int) with
    | false=>simp
    | true=>
     cases hz:e.block.known e.base with
     | false=>simp [h3,hz]
     | true=>
      simp [h3,hz]
      refine chk_ref l m (i + 1) _ (by omega) fun base=>?_
      rw [getM_setM,htk,List.find?_append]
      by_cases hb2:e.base=base
      ·subst hb2
       rw [h4,if_pos rfl,hfe];rfl
      ·rw [if_neg hb2,hI base,hother base hb2];simp
theorem ref_chk (l:List En):refR l=chkR l:=by
 unfold refR chkR
 split
 ·rfl
 ·have:=chk_ref l l.length 0 [] (by simp) fun base=>by simp [getM]
  simpa using this.symm
theorem fn1022g (l:List En) (hO:∀ e,e ∈ l → e.Ok):Fn Tryz.prog 22 [ens l] (ib (chkR l)):=by
 rw [← ref_chk];exact fn1022 l hO
end Go.Abs

namespace Go.Abs
open Go.Proofs
theorem Rch.le {l:List En} (hR:RowOK l) {n x:Int} (hn:0 ≤ n ∧ n < l.length) (h:Rch l [n] x):x ≤ n:=by
 have key:∀ x,Rch l [n] x → 0 ≤ x ∧ x ≤ n:=fun x h=>by
  induction h with
  | base h=>simp at h;subst h;omega
  | step h h' ih=>
   rename_i x y
   obtain ⟨e,he⟩:=at_of (ts:=l) (i:=y.toNat) (by omega)
   have hu:usesAt l y=usesE y.toNat e:=by simp [usesAt,he]
   have:=uses_range (hR.right y.toNat e he) x (hu ▸ h')
   omega
 exact (key x h).2
end Go.Abs

namespace Go.Abs
open Go.Proofs
def LR (σ:St) (s ty sz bs:Nat) (l:List (List Cell)) (K:Nat):Prop:=(σ.sl s=.c (.cap sz bs []) ∧ l=[]) ∨ (σ.sl s=.c (.own K (σ.tg K)) ∧ σ.ob K=some (.row ty sz bs l))
def J1066 (l:List A) (m:Nat) (σ:St):Prop:=∃ i:Nat,i + m=l.length ∧ σ.sl 0=.c (.sl 7 104 (l.map A.cells)) ∧ σ.sl 4=.c (.v (.int .i64 i)) ∧ LR σ 3 126 7 104 ((l.take i).map A.cells) 1066031
theorem fn1066 (l:List A):Fn Tryz.prog 66 [ams l] (ams l):=by
 refine fn_of (base:=1066000) ok1066 rfl fun σ h0 hr=>?_
 have s0:σ.sl 0=.c (.sl 7 104 (l.map A.cells)):=h0 0
 have hl:=real_ams (hr (ams l) (by simp))
 clear h0 hr
 unfold c1066
 simp [s0,-W_block]
 rw [W_block]
 refine W_loop (J1066 l) l.length ⟨0,by simp,by simp [s0],by simp,.inl ⟨by simp,by simp⟩⟩ ?_
 clear s0 σ
 rintro m σ ⟨i,hm,s0,s4,L⟩
 unfold c1066b0
 by_cases hi:i < l.length
 ·have w1:=wrap_succ (i:=i) (by omega)
  obtain ⟨a,ha⟩:=at_of hi
  obtain ⟨_,ha2⟩:=getE ha
  have htk:(l.take (i + 1)).map A.cells=(l.take i).map A.cells ++ [a.cells]:=by rw [take_succ' ha];simp
  simp [s0,s4,hi,ha2,A.cells]
  refine W_dregA ?_
  simp
  refine CallA.fn (fn19 a.typ) (by simp [tm,cells_eq]) (by simp) (by rw [tm,cells_eq];rfl) ?_
  simp
  refine CallA.fn (fn64 (ts:=a.dom) fun t _=>fn19 t) (by simp [tms]) (by simp) rfl ?_
  simp
  refine CallA.fn (fn64 (ts:=a.idx) fun t _=>fn19 t) (by simp [tms]) (by simp) rfl ?_
  simp [tm,tms,cells_eq]
  refine ⟨by decide,by decide,by decide,realC_n ?_⟩
  rcases L with ⟨q1,q2⟩ | ⟨q1,q2⟩
  ·have hi0:i=0:=by
    by_cases h:i=0
    ·exact h
    ·exfalso
     have:((l.take i).map A.cells).length=0:=by rw [q2];rfl
     rw [List.length_map,List.length_take,Nat.min_eq_left (by omega)] at this
     exact h this
   simp [q1,s4,w1]
   refine ⟨by simp [room],m - 1,by omega,i + 1,by omega,by simp [s0],by simp,.inr ⟨by simp,?_⟩⟩
   rw [htk,q2];simp [A.cells]
  ·simp [q1,q2,s4,w1]
   refine ⟨by simp [room],by rw [Nat.min_eq_left (by omega)];simp [room];omega,m - 1,by omega,i + 1,by omega,by simp [s0],by simp,.inr ⟨by simp,?_⟩⟩
   rw [htk];simp [A.cells,List.map_take]
 ·have:i=l.length:=by omega
  subst this
  rcases L with ⟨q1,q2⟩ | ⟨q1,q2⟩
  ·have:l=[]:=by simpa using q2
   subst this
   simp [s0,s4,q1,r1066,ams]
  ·simp [s0,s4,q1,q2,r1066,ams]
theorem fn1067 (c:K):Fn Tryz.prog 67 [km c] (km c):=by
 refine fn_of (base:=1067000) ok1067 rfl fun σ h0 hr=>?_
 have s0:σ.sl 0=km c:=h0 0
 simp only [km,K.cells] at s0
 clear h0 hr
 unfold c1067
 simp [s0]
 refine W_dregA ?_
 simp [s0]
 refine CallA.fn (fn1066 c.args) (by simp [ams]) (by simp) rfl ?_
 simp
 refine CallA.fn (fn64 (ts:=c.idx) fun t _=>fn19 t) (by simp [tms]) (by simp) rfl ?_
 simp
 refine CallA.fn (fn19 c.dec) (by simp [tm,cells_eq]) (by simp) (by rw [tm,cells_eq];rfl) ?_
 simp [tm,tms,ams,cells_eq]
 refine ⟨by decide,by decide,by decide,realC_n ?_⟩
 simp [r1067,km,K.cells]
def LB (σ:St) (x y:Cell) (n:Int):Prop:=σ.ob 1045003=some (.box 68 [x,y,.v (.int .i64 n)])
def LC (σ:St) (x:Cell) (ty sz bs:Nat) (l:List (List Cell)) (K:Nat):Prop:=(x=.cap sz bs [] ∧ l=[]) ∨ (x=.own K (σ.tg K) ∧ σ.ob K=some (.row ty sz bs l))
structure FTB (b:B) (σ:St):Prop where
 s1:σ.sl 1=.c (.ref 1045001 (σ.tg 1045001) 0)
 o1:σ.ob 1045001=some (.box 68 b.cells)
 s2:σ.sl 2=.c (.ref 1045002 (σ.tg 1045002) 0)
 o2:σ.ob 1045002=some (.box 68 [.cap 6 80 [],.cap 6 96 [],.v (.int .i64 0)])
 s3:σ.sl 3=.c (.ref 1045003 (σ.tg 1045003) 0)
def J1045a (b:B) (m:Nat) (σ:St):Prop:=∃ (i:Nat) (x:Cell),i + m=b.sorts.length ∧ FTB b σ ∧ σ.sl 4=.c (.v (.int .i64 i)) ∧ LB σ x (.cap 6 96 []) b.elim ∧ LC σ x 104 6 80 ((b.sorts.take i).map S.cells) 1045034
theorem loop1045a {σ:St} {Q:SEx → St → Prop} (b:B) (hl:b.sorts.length * 80 ≤ 140737488355328) (H:FTB b σ) (s4:σ.sl 4=.c (.v (.int .i64 (0:Nat)))) (hB:LB σ (.cap 6 80 []) (.cap 6 96 []) b.elim)
  (hQ:∀ σ' x,FTB b σ' → LB σ' x (.cap 6 96 []) b.elim → LC σ' x 104 6 80 (b.sorts.map S.cells) 1045034 → Q .normal σ'):W Tryz.prog 1045000 (.loop c1045b0) σ (onBlock 0 Q):=by
 refine W_loop (J1045a b) b.sorts.length ⟨0,_,by simp,H,s4,hB,.inl ⟨rfl,by simp⟩⟩ ?_
 clear H s4 hB σ
 rintro m σ ⟨i,x,hm,⟨s1,o1,s2,o2,s3⟩,s4,hB,L⟩
 simp only [LB] at hB
 have o1':=o1
 simp only [B.cells] at o1
 unfold c1045b0
 by_cases hi:i < b.sorts.length
 ·have w1:=wrap_succ (i:=i) (by omega)
  obtain ⟨s,hs⟩:=at_of hi
  obtain ⟨_,hs2⟩:=getE hs
  have htk:(b.sorts.take (i + 1)).map S.cells=(b.sorts.take i).map S.cells ++ [s.cells]:=by rw [take_succ' hs];simp
  simp [s1,o1,s4,hi,hs2,S.cells]
  refine W_dregA ?_
  simp
  refine CallA.fn (fn1066 s.idx) (by simp [ams]) (by simp) rfl ?_
  simp
  refine CallA.fn (fn19 s.decType) (by simp [tm,cells_eq]) (by simp) (by rw [tm,cells_eq];rfl) ?_
  simp [tm,ams,cells_eq]
  refine ⟨by decide,by decide,realC_n ?_⟩
  rcases L with ⟨rfl,q2⟩ | ⟨rfl,q2⟩
  ·simp [s3,hB,s4,w1]
   refine ⟨by simp [room],m - 1,by omega,i + 1,_,by omega,⟨by simp [s1],by simp [o1'],by simp [s2],by simp [o2],by simp [s3]⟩,by simp,by simp [LB];rfl,.inr ⟨by simp,?_⟩⟩
   rw [htk,q2];simp [S.cells]
  ·simp [s3,hB,q2,s4,w1]
   refine ⟨by simp [room],by rw [Nat.min_eq_left (by omega)];simp [room];omega,m - 1,by omega,i + 1,_,by omega,⟨by simp [s1],by simp [o1'],by simp [s2],by simp [o2],by simp [s3]⟩,by simp,by simp [LB];rfl,.inr ⟨by simp,?_⟩⟩
   rw [htk];simp [S.cells,List.map_take]
 ·have:i=b.sorts.length:=by omega
  subst this
  simp [s1,o1,s4]
  refine hQ _ x ⟨by simp [s1],by simp [o1'],by simp [s2],by simp [o2],by simp [s3]⟩ (by simpa [LB] using hB) ?_
  rcases L with ⟨q1,q2⟩ | ⟨q1,q2⟩
  ·exact .inl ⟨q1,by simpa using q2⟩
  ·exact .inr ⟨by simpa using q1,by simpa using q2⟩
end Go.Abs

namespace Go.Abs
open Go.Proofs
def SX (σ:St) (x:Cell) (b:B):Prop:=LC σ x 104 6 80 (b.sorts.map S.cells) 1045034
def J1045b (b:B) (m:Nat) (σ:St):Prop:=∃ (i:Nat) (x y:Cell),i + m=b.cons.length ∧ FTB b σ ∧ σ.sl 6=.c (.v (.int .i64 i)) ∧ LB σ x y b.elim ∧ SX σ x b ∧ LC σ y 106 6 96 ((b.cons.take i).map K.cells) 1045052
theorem loop1045b {σ:St} {Q:SEx → St → Prop} (b:B) (hl:b.cons.length * 96 ≤ 140737488355328) (x:Cell) (H:FTB b σ) (s6:σ.sl 6=.c (.v (.int .i64 (0:Nat)))) (hB:LB σ x (.cap 6 96 []) b.elim) (hX:SX σ x b)
  (hQ:∀ σ' x y,FTB b σ' → LB σ' x y b.elim → SX σ' x b → LC σ' y 106 6 96 (b.cons.map K.cells) 1045052 → Q .normal σ'):W Tryz.prog 1045000 (.loop c1045b1) σ (onBlock 2 Q):=by
 refine W_loop (J1045b b) b.cons.length ⟨0,x,_,by simp,H,s6,hB,hX,.inl ⟨rfl,by simp⟩⟩ ?_
 clear H s6 hB hX σ
 rintro m σ ⟨i,x,y,hm,⟨s1,o1,s2,o2,s3⟩,s6,hB,hX,L⟩
 simp only [LB] at hB
 have o1':=o1
 simp only [B.cells] at o1
 unfold c1045b1
 by_cases hi:i < b.cons.length
 ·have w1:=wrap_succ (i:=i) (by omega)
  obtain ⟨c,hc⟩:=at_of hi
  obtain ⟨_,hc2⟩:=getE hc
  have htk:(b.cons.take (i + 1)).map K.cells=(b.cons.take i).map K.cells ++ [c.cells]:=by rw [take_succ' hc];simp
  simp [s1,o1,s6,hi]
  refine W_dregA ?_
  rcases L with ⟨rfl,q2⟩ | ⟨rfl,q2⟩
  ·simp [s1,o1,s3,hB,s6,hi,hc2,K.cells]
   refine CallA.fn (fn1067 c) (by simp [km,K.cells]) (by simp) rfl ?_
   simp [km,K.cells]
   refine ⟨by simp [room],by decide,by simp [room],?_⟩
   simp [s3,hB]
   refine ⟨by decide,realC_n ?_⟩
   simp [s6,w1]
   refine ⟨m - 1,by omega,i + 1,x,_,by omega,⟨by simp [s1],by simp [o1'],by simp [s2],by simp [o2],by simp [s3]⟩,by simp,by simp [LB];rfl,by simpa [SX,LC] using hX,.inr ⟨by simp,?_⟩⟩
   rw [htk,q2];simp [K.cells]
  ·simp [s1,o1,s3,hB,q2,s6,hi,hc2,K.cells]
   refine CallA.fn (fn1067 c) (by simp [km,K.cells]) (by simp) rfl ?_
   simp [km,K.cells,q2]
   refine ⟨by simp [room],by decide,by rw [Nat.min_eq_left (by omega)];simp [room];omega,?_⟩
   simp [s3,hB]
   refine ⟨by decide,realC_n ?_⟩
   simp [s6,w1]
   refine ⟨m - 1,by omega,i + 1,x,_,by omega,⟨by simp [s1],by simp [o1'],by simp [s2],by simp [o2],by simp [s3]⟩,by simp,by simp [LB];rfl,by simpa [SX,LC] using hX,.inr ⟨by simp,?_⟩⟩
   rw [htk];simp [K.cells,List.map_take]
 ·have:i=b.cons.length:=by omega
  subst this
  simp [s1,o1,s6]
  refine hQ _ x y ⟨by simp [s1],by simp [o1'],by simp [s2],by simp [o2],by simp [s3]⟩ (by simpa [LB] using hB) (by simpa [SX,LC] using hX) ?_
  rcases L with ⟨q1,q2⟩ | ⟨q1,q2⟩
  ·exact .inl ⟨q1,by simpa using q2⟩
  ·exact .inr ⟨by simpa using q1,by simpa using q2⟩
theorem fn1045 (b:B):Fn Tryz.prog 45 [bm b] (bm b):=by
 refine fn_of (base:=1045000) ok1045 rfl fun σ h0 hr=>?_
 have s0:σ.sl 0=bm b:=h0 0
 have hl1:=real_b1 (hr (bm b) (by simp))
 have hl2:=real_b2 (hr (bm b) (by simp))
 simp only [bm,B.cells] at s0
 clear h0 hr
 unfold c1045
 simp [s0,-W_block]
 rw [W_block]
 refine loop1045a b hl1 ⟨by simp,by simp [B.cells],by simp,by simp,by simp⟩ (by simp) (by simp [LB]) fun σ' x H hB hX=>?_
 obtain ⟨s1,o1,s2,o2,s3⟩:=H
 simp [-W_block]
 rw [W_block]
 refine loop1045b b hl2 x ⟨by simp [s1],by simp [o1],by simp [s2],by simp [o2],by simp [s3]⟩ (by simp) (by simpa [LB] using hB) (by simpa [SX,LC] using hX) fun σ' x y H hB hX hY=>?_
 obtain ⟨s1,o1,s2,o2,s3⟩:=H
 simp only [LB] at hB
 rcases hX with ⟨rfl,x2⟩ | ⟨rfl,x2⟩ <;> rcases hY with ⟨rfl,y2⟩ | ⟨rfl,y2⟩ <;>
 ·simp [s2,o2,s3,hB,x2,y2,r1045,bm,B.cells]
def J1019 (l:List En) (m:Nat) (σ:St):Prop:=∃ i:Nat,i + m=l.length ∧ σ.sl 0=.c (.sl 12 160 (l.map En.cells)) ∧ σ.sl 4=.c (.v (.int .i64 i)) ∧ LR σ 3 70 12 160 ((l.take i).map En.cells) 1019031
theorem fn1019 (l:List En):Fn Tryz.prog 19 [ens l] (ens l):=by
 refine fn_of (base:=1019000) ok1019 rfl fun σ h0 hr=>?_
 have s0:σ.sl 0=.c (.sl 12 160 (l.map En.cells)):=h0 0
 have hl:=real_ens (hr (ens l) (by simp))
 clear h0 hr
 unfold c1019
 simp [s0,-W_block]
 rw [W_block]
 refine W_loop (J1019 l) l.length ⟨0,by simp,by simp [s0],by simp,.inl ⟨by simp,by simp⟩⟩ ?_
 clear s0 σ
 rintro m σ ⟨i,hm,s0,s4,L⟩
 unfold c1019b0
 by_cases hi:i < l.length
 ·have w1:=wrap_succ (i:=i) (by omega)
  obtain ⟨e,he⟩:=at_of hi
  obtain ⟨_,he2⟩:=getE he
  have htk:(l.take (i + 1)).map En.cells=(l.take i).map En.cells ++ [e.cells]:=by rw [take_succ' he];simp
  simp [s0,s4,hi,he2,En.cells]
  refine W_dregA ?_
  simp
  refine CallA.fn (fn19 e.typ) (by simp [tm,cells_eq]) (by simp) (by rw [tm,cells_eq];rfl) ?_
  simp
  refine CallA.fn (fn19 e.body) (by simp [tm,cells_eq]) (by simp) (by rw [tm,cells_eq];rfl) ?_
  simp
  refine CallA.fn (fn1045 e.block) (by simp [bm,B.cells]) (by simp) rfl ?_
  simp [tm,bm,B.cells,cells_eq]
  refine ⟨by decide,by decide,by decide,realC_n ?_⟩
  rcases L with ⟨q1,q2⟩ | ⟨q1,q2⟩
  ·simp [q1,s4,w1]
   refine ⟨by simp [room],m - 1,by omega,i + 1,by omega,by simp [s0],by simp,.inr ⟨by simp,?_⟩⟩
   rw [htk,q2];simp [En.cells]
  ·simp [q1,q2,s4,w1]
   refine ⟨by simp [room],by rw [Nat.min_eq_left (by omega)];simp [room];omega,m - 1,by omega,i + 1,by omega,by simp [s0],by simp,.inr ⟨by simp,?_⟩⟩
   rw [htk];simp [En.cells,List.map_take]
 ·have:i=l.length:=by omega
  subst this
  rcases L with ⟨q1,q2⟩ | ⟨q1,q2⟩
  ·have:l=[]:=by simpa using q2
   subst this
   simp [s0,s4,q1,r1019,ens]
  ·simp [s0,s4,q1,q2,r1019,ens]
theorem fn1020 (l:List Int):Fn Tryz.prog 20 [is l] (is l):=by
 refine fn_of (base:=1020000) ok1020 rfl fun σ h0 hr=>?_
 have s0:σ.sl 0=.c (.sl 1 8 (ic l)):=h0 0
 have hl:=real_is (hr (is l) (by simp))
 clear h0 hr
 unfold c1020
 simp [s0]
 refine ⟨by simp [room];omega,?_⟩
 simp [r1020,is,ic]
end Go.Abs

namespace Go.Abs
def c1023b0:SCode:=
 .seq (.seq (.reg [m_ 11 5,m_ 12 0,o_ 13 (.len 37 (.t 12)),o_ 14 (.bin .lss (.t 11) (.t 13))]) (.cond (.t 14) (.skip) (.exit 0)))
 (.seq (.block 1 (.seq (.dreg [0,0,3,7,15,0,0,96,224,480,1023,2047,4095,4095,16383,32767,65535,4095,4095,397311,921599,1970175,4194303,8388607,16777215,33554431,67108863,67108863,268435455,536870911,1073741823,67108863,67108863,6509559807,15099494399,32279363583,68719476735,137438953471,274877906943,549755813887,1099511627775,1099511627775,4398046511103,8796093022207,17592186044415,1099511627775,1099511627775,106652627894271,247390116249599,528865092960255,1125899906842623,2251799813685247,4503599627370495,9007199254740991,9007199254740991,36028797018963967,72057594037927935,144115188075855871,9007199254740991,9007199254740991,873698327709876223,2026619832316723199,4332462841530417151,9223372036854775807,18446744073709551615,36893488147419103231,73786976294838206463,73786976294838206463,295147905179352825855,590295810358705651711,1180591620717411303423,73786976294838206463,73786976294838206463,7157336700599306027007,16602069666338596454399,35491535597817177309183,75557863725914323419135,151115727451828646838271,302231454903657293676543]
 [m_ 17 0,m_ 18 5,o_ 19 (.iad 70 12 (.t 17) (.t 18)),o_ 20 (.fad 70 0 0 (.t 19)),o_ 21 (.ld1 3 (.t 20)),m_ 22 1,m_ 23 5,o_ 24 (.iad 70 12 (.t 22) (.t 23)),o_ 25 (.fad 70 0 0 (.t 24)),o_ 26 (.ld1 3 (.t 25)),o_ 27 (.bin .neq (.t 21) (.t 26)),m_ 28 27,qm_ 29 28 0,qm_ 30 28 5,q_ 31 28 (.iad 70 12 (.t 29) (.t 30)),q_ 32 28 (.fad 70 1 1 (.t 31)),q_ 33 28 (.ldn 63 3 (.t 32)),qm_ 34 28 1,qm_ 35 28 5,q_ 36 28 (.iad 70 12 (.t 34) (.t 35)),q_ 37 28 (.fad 70 1 1 (.t 36)),q_ 38 28 (.ldn 63 3 (.t 37)),q_ 39 28 (.call (.f 49) [.t 33,.t 38]),q_ 40 28 (.not (.t 39)),o_ 41 (.pick (.t 28) (.k (.bool true)) (.t 40)),m_ 42 41,qm_ 43 42 0,qm_ 44 42 5,q_ 45 42 (.iad 70 12 (.t 43) (.t 44)),q_ 46 42 (.fad 70 2 4 (.t 45)),q_ 47 42 (.ldn 63 3 (.t 46)),qm_ 48 42 1,qm_ 49 42 5,q_ 50 42 (.iad 70 12 (.t 48) (.t 49)),q_ 51 42 (.fad 70 2 4 (.t 50)),q_ 52 42 (.ldn 63 3 (.t 51)),q_ 53 42 (.call (.f 49) [.t 47,.t 52]),
 q_ 54 42 (.not (.t 53)),o_ 55 (.pick (.t 42) (.k (.bool true)) (.t 54)),m_ 56 55,qm_ 57 56 0,qm_ 58 56 5,q_ 59 56 (.iad 70 12 (.t 57) (.t 58)),q_ 60 56 (.fad 70 3 7 (.t 59)),q_ 61 56 (.ld1 3 (.t 60)),qm_ 62 56 1,qm_ 63 56 5,q_ 64 56 (.iad 70 12 (.t 62) (.t 63)),q_ 65 56 (.fad 70 3 7 (.t 64)),q_ 66 56 (.ld1 3 (.t 65)),q_ 67 56 (.bin .neq (.t 61) (.t 66)),o_ 68 (.pick (.t 56) (.k (.bool true)) (.t 67)),m_ 69 68,qm_ 70 69 0,qm_ 71 69 5,q_ 72 69 (.iad 70 12 (.t 70) (.t 71)),q_ 73 69 (.fad 70 4 8 (.t 72)),q_ 74 69 (.ld1 3 (.t 73)),qm_ 75 69 1,qm_ 76 69 5,q_ 77 69 (.iad 70 12 (.t 75) (.t 76)),q_ 78 69 (.fad 70 4 8 (.t 77)),q_ 79 69 (.ld1 3 (.t 78)),q_ 80 69 (.bin .neq (.t 74) (.t 79)),o_ 81 (.pick (.t 69) (.k (.bool true)) (.t 80)),m_ 82 81,qm_ 83 82 0,qm_ 84 82 5,q_ 85 82 (.iad 70 12 (.t 83) (.t 84)),q_ 86 82 (.fad 70 5 9 (.t 85)),q_ 87 82 (.ldn 68 3 (.t 86)),qm_ 88 82 1,qm_ 89 82 5,
 q_ 90 82 (.iad 70 12 (.t 88) (.t 89)),q_ 91 82 (.fad 70 5 9 (.t 90)),q_ 92 82 (.ldn 68 3 (.t 91)),q_ 93 82 (.call (.f 48) [.t 87,.t 92]),q_ 94 82 (.not (.t 93)),o_ 95 (.pick (.t 82) (.k (.bool true)) (.t 94))]) (.cond (.t 95) (.seq (.reg [o_ 4 (.mv (.k (.bool false)))]) (.ret)) (.skip)))) (.reg [m_ 15 5,o_ 16 (.bin .add (.t 15) (.k (.int .i64 1))),m_ 5 16]))
def c1023:SCode:=
 .seq (.reg [o_ 4 (.mv (.k (.bool false)))]) (.seq (.seq (.reg [m_ 6 0,o_ 7 (.len 37 (.t 6)),m_ 8 1,o_ 9 (.len 37 (.t 8)),o_ 10 (.bin .neq (.t 7) (.t 9))]) (.cond (.t 10) (.seq (.reg [o_ 4 (.mv (.k (.bool false)))]) (.ret)) (.skip))) (.seq (.seq (.reg [o_ 5 (.mv (.k (.int .i64 0)))]) (.block 0 (.loop c1023b0))) (.seq (.reg [o_ 4 (.mv (.k (.bool true)))]) (.ret))))
def r1023:List RR:=[.t 4]
theorem ok1023:okFn Go.Proofs.Tryz.prog 23 96 c1023 r1023 2=true:=by kernel_rfl
def c1008b0:SCode:=
 .seq (.seq (.reg [m_ 81 21,m_ 82 4,o_ 83 (.len 22 (.t 82)),o_ 84 (.bin .lss (.t 81) (.t 83))]) (.cond (.t 84) (.skip) (.exit 0))) (.seq (.block 1 (.seq (.dreg [0,0,3,7,0,0,48,112,255] [m_ 87 13,m_ 88 21,o_ 89 (.iad 28 2 (.t 87) (.t 88)),o_ 90 (.ldn 28 2 (.t 89)),m_ 91 4,m_ 92 21,o_ 93 (.iad 28 2 (.t 91) (.t 92)),o_ 94 (.ldn 28 2 (.t 93)),o_ 95 (.aeq true 28 (.t 90) (.t 94))]) (.cond (.t 95) (.seq (.reg [o_ 10 (.mv (.k (.bool false)))]) (.ret)) (.skip)))) (.reg [m_ 85 21,o_ 86 (.bin .add (.t 85) (.k (.int .i64 1))),m_ 21 86]))
def c1008b1:SCode:=
 .seq (.seq (.reg [m_ 117 26,m_ 118 2,o_ 119 (.len 24 (.t 118)),o_ 120 (.bin .lss (.t 117) (.t 119)),m_ 121 120,pm_ 122 121 25,p_ 123 121 (.bin .eql (.t 122) (.k (.int .i64 0))),o_ 124 (.pick (.t 121) (.t 123) (.k (.bool false)))]) (.cond (.t 124) (.skip) (.exit 2))) (.seq (.block 3 (.seq (.reg [m_ 127 2,m_ 128 26,o_ 129 (.iad 3 1 (.t 127) (.t 128)),o_ 130 (.ld1 3 (.t 129)),o_ 131 (.bin .lss (.t 130) (.k (.int .i64 0))),m_ 132 131,qm_ 133 132 2,qm_ 134 132 26,q_ 135 132 (.iad 3 1 (.t 133) (.t 134)),q_ 136 132 (.ld1 3 (.t 135)),qm_ 137 132 0,q_ 138 132 (.len 37 (.t 137)),q_ 139 132 (.bin .geq (.t 136) (.t 138)),o_ 140 (.pick (.t 132) (.k (.bool true)) (.t 139))]) (.cond (.t 140) (.reg [o_ 25 (.mv (.k (.int .i64 14)))]) (.skip)))) (.reg [m_ 125 26,o_ 126 (.bin .add (.t 125) (.k (.int .i64 1))),m_ 26 126]))
def c1008b2:SCode:=
 .seq (.seq (.reg [m_ 153 29,m_ 154 4,o_ 155 (.len 22 (.t 154)),o_ 156 (.bin .lss (.t 153) (.t 155))]) (.cond (.t 156) (.skip) (.exit 4))) (.seq (.block 5 (.seq (.reg [m_ 159 4,m_ 160 29,o_ 161 (.iad 28 2 (.t 159) (.t 160)),o_ 162 (.iaa 3 1 2 (.t 161) (.k (.int .i64 0))),o_ 163 (.ld1 3 (.t 162)),o_ 164 (.bin .lss (.t 163) (.k (.int .i64 0))),m_ 165 164,qm_ 166 165 4,qm_ 167 165 29,q_ 168 165 (.iad 28 2 (.t 166) (.t 167)),q_ 169 165 (.iaa 3 1 2 (.t 168) (.k (.int .i64 0))),q_ 170 165 (.ld1 3 (.t 169)),qm_ 171 165 3,q_ 172 165 (.bin .geq (.t 170) (.t 171)),o_ 173 (.pick (.t 165) (.k (.bool true)) (.t 172)),m_ 174 173,qm_ 175 174 4,qm_ 176 174 29,q_ 177 174 (.iad 28 2 (.t 175) (.t 176)),q_ 178 174 (.iaa 3 1 2 (.t 177) (.k (.int .i64 1))),q_ 179 174 (.ld1 3 (.t 178)),q_ 180 174 (.bin .lss (.t 179) (.k (.int .i64 0))),o_ 181 (.pick (.t 174) (.k (.bool true)) (.t 180)),m_ 182 181,qm_ 183 182 4,
 qm_ 184 182 29,q_ 185 182 (.iad 28 2 (.t 183) (.t 184)),q_ 186 182 (.iaa 3 1 2 (.t 185) (.k (.int .i64 1))),q_ 187 182 (.ld1 3 (.t 186)),qm_ 188 182 3,q_ 189 182 (.bin .geq (.t 187) (.t 188)),o_ 190 (.pick (.t 182) (.k (.bool true)) (.t 189))]) (.cond (.t 190) (.reg [o_ 28 (.mv (.k (.int .i64 1)))]) (.skip)))) (.reg [m_ 157 29,o_ 158 (.bin .add (.t 157) (.k (.int .i64 1))),m_ 29 158]))
def c1008:SCode:=
 .seq (.reg [o_ 10 (.mv (.k (.bool false)))]) (.seq (.seq (.reg [m_ 32 0,o_ 33 (.call (.f 16) [.t 32]),m_ 34 33,qm_ 35 34 2,q_ 36 34 (.len 24 (.t 35)),q_ 37 34 (.bin .gtr (.t 36) (.k (.int .i64 60))),o_ 38 (.pick (.t 34) (.k (.bool true)) (.t 37)),m_ 39 38,qm_ 40 39 4,q_ 41 39 (.len 22 (.t 40)),q_ 42 39 (.bin .gtr (.t 41) (.k (.int .i64 300))),o_ 43 (.pick (.t 39) (.k (.bool true)) (.t 42))]) (.cond (.t 43) (.seq (.reg [o_ 10 (.mv (.k (.bool true)))]) (.ret)) (.skip))) (.seq (.reg [m_ 44 0,o_ 45 (.call (.f 19) [.t 44]),m_ 46 2,o_ 47 (.call (.f 20) [.t 46]),m_ 11 45,m_ 12 47]) (.seq (.reg [o_ 13 (.mv (.nil 2 16))]) (.seq (.reg [m_ 48 13,m_ 49 4,o_ 50 (.app 28 2 16 (.t 48) (.t 49)),m_ 13 50]) (.seq (.reg [m_ 52 11,m_ 53 1,o_ 54 (.call (.f 21) [.t 52,.t 53]),m_ 51 54,o_ 55 (.ext (.t 51) 0),o_ 56 (.ext (.t 51) 1),m_ 14 55,m_ 15 56]) (.seq (.reg [m_ 58 11,m_ 59 12,
 o_ 60 (.call (.f 17) [.t 58,.t 59]),m_ 57 60,o_ 61 (.ext (.t 57) 0),o_ 62 (.ext (.t 57) 1),m_ 16 61,m_ 17 62]) (.seq (.reg [m_ 64 3,m_ 65 13,o_ 66 (.call (.f 12) [.t 64,.t 65]),m_ 63 66,o_ 67 (.ext (.t 63) 0),o_ 68 (.ext (.t 63) 1),m_ 18 67,m_ 19 68]) (.seq (.reg [m_ 69 0,o_ 70 (.call (.f 22) [.t 69]),m_ 20 70]) (.seq (.seq (.reg [m_ 71 11,m_ 72 0,o_ 73 (.call (.f 23) [.t 71,.t 72]),o_ 74 (.not (.t 73)),m_ 75 74,qm_ 76 75 12,qm_ 77 75 2,q_ 78 75 (.call (.f 15) [.t 76,.t 77]),q_ 79 75 (.not (.t 78)),o_ 80 (.pick (.t 75) (.k (.bool true)) (.t 79))]) (.cond (.t 80) (.seq (.reg [o_ 10 (.mv (.k (.bool false)))]) (.ret)) (.skip))) (.seq (.seq (.reg [o_ 21 (.mv (.k (.int .i64 0)))]) (.block 0 (.loop c1008b0))) (.seq (.reg [o_ 96 (.lit 3 1 8 []),m_ 97 20,m_ 22 96,m_ 23 97]) (.seq (.seq (.reg [m_ 98 23,o_ 99 (.bin .eql (.t 98) (.k (.int .i64 0))),m_ 100 99,pm_ 101 100 1,
 p_ 102 100 (.bin .lss (.t 101) (.k (.int .i64 0))),pm_ 103 100 102,qm_ 104 103 1,qm_ 105 103 0,q_ 106 103 (.len 37 (.t 105)),q_ 107 103 (.bin .geq (.t 104) (.t 106)),p_ 108 100 (.pick (.t 103) (.k (.bool true)) (.t 107)),o_ 109 (.pick (.t 100) (.t 108) (.k (.bool false)))]) (.cond (.t 109) (.reg [o_ 23 (.mv (.k (.int .i64 14)))]) (.skip))) (.seq (.seq (.reg [m_ 110 23,o_ 111 (.bin .eql (.t 110) (.k (.int .i64 0)))]) (.cond (.t 111) (.reg [m_ 112 0,m_ 113 1,o_ 114 (.call (.f 24) [.t 112,.t 113]),m_ 22 114]) (.skip))) (.seq (.reg [o_ 115 (.lit 3 1 8 []),m_ 116 20,m_ 24 115,m_ 25 116]) (.seq (.seq (.reg [o_ 26 (.mv (.k (.int .i64 0)))]) (.block 2 (.loop c1008b1))) (.seq (.seq (.reg [m_ 141 25,o_ 142 (.bin .eql (.t 141) (.k (.int .i64 0)))]) (.cond (.t 142) (.reg [m_ 143 0,m_ 144 2,o_ 145 (.call (.f 25) [.t 143,.t 144]),m_ 24 145]) (.skip))) (.seq (.reg [o_ 146 (.lit 3 1 8 []),m_ 27 146,
 o_ 28 (.mv (.k (.int .i64 0)))]) (.seq (.seq (.reg [m_ 147 3,o_ 148 (.bin .lss (.t 147) (.k (.int .i64 0))),m_ 149 148,qm_ 150 149 3,q_ 151 149 (.bin .gtr (.t 150) (.k (.int .i64 200))),o_ 152 (.pick (.t 149) (.k (.bool true)) (.t 151))]) (.cond (.t 152) (.reg [o_ 28 (.mv (.k (.int .i64 1)))]) (.skip))) (.seq (.seq (.reg [o_ 29 (.mv (.k (.int .i64 0)))]) (.block 4 (.loop c1008b2))) (.seq (.seq (.reg [m_ 191 28,o_ 192 (.bin .eql (.t 191) (.k (.int .i64 0)))]) (.cond (.t 192) (.seq (.reg [m_ 194 3,m_ 195 4,o_ 196 (.call (.f 26) [.t 194,.t 195]),m_ 193 196,o_ 197 (.ext (.t 193) 0),o_ 198 (.ext (.t 193) 1),m_ 30 197,m_ 31 198]) (.seq (.reg [m_ 199 30,m_ 27 199]) (.seq (.reg [m_ 200 31,o_ 201 (.not (.t 200))]) (.cond (.t 201) (.reg [o_ 28 (.mv (.k (.int .i64 12)))]) (.skip))))) (.skip))) (.seq (.reg [m_ 202 15,m_ 203 23,o_ 204 (.bin .eql (.t 202) (.t 203)),m_ 205 204,pm_ 206 205 14,
 pm_ 207 205 22,p_ 208 205 (.call (.f 15) [.t 206,.t 207]),o_ 209 (.pick (.t 205) (.t 208) (.k (.bool false))),m_ 210 209,pm_ 211 210 17,pm_ 212 210 25,p_ 213 210 (.bin .eql (.t 211) (.t 212)),o_ 214 (.pick (.t 210) (.t 213) (.k (.bool false))),m_ 215 214,pm_ 216 215 16,pm_ 217 215 24,p_ 218 215 (.call (.f 15) [.t 216,.t 217]),o_ 219 (.pick (.t 215) (.t 218) (.k (.bool false))),m_ 220 219,pm_ 221 220 19,pm_ 222 220 28,p_ 223 220 (.bin .eql (.t 221) (.t 222)),o_ 224 (.pick (.t 220) (.t 223) (.k (.bool false))),m_ 225 224,pm_ 226 225 18,pm_ 227 225 27,p_ 228 225 (.call (.f 15) [.t 226,.t 227]),o_ 229 (.pick (.t 225) (.t 228) (.k (.bool false))),m_ 230 229,p_ 231 230 (.call (.f 13) []),o_ 232 (.pick (.t 230) (.t 231) (.k (.bool false))),m_ 10 232]) (.ret))))))))))))))))))))))
def r1008:List RR:=[.t 10]
theorem ok1008:okFn Go.Proofs.Tryz.prog 8 233 c1008 r1008 5=true:=by kernel_rfl
end Go.Abs
