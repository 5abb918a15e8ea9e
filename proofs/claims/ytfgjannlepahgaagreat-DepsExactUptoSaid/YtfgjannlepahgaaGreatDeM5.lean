/- THIS TEXT TELLS SOME FUNCTIONS OF THE PROGRAM IN THE CALCULUS, PROVES BY THE KERNEL THAT WHAT IS TOLD IS THE LOADED CODE, AND PROVES WHAT THEY COMPUTE: for every argument that is told; the conditions stand in each theorem. -/
import Derived.Test.YtfgjannlepahgaaGreatDeM4
set_option linter.unusedVariables false
set_option linter.unusedSimpArgs false
namespace Go.Abs
open Go.Proofs
def J1023 (l:List En) (m:Nat) (σ:St):Prop:=∃ i:Nat,i + m=l.length ∧ σ.sl 0=.c (.sl 12 160 (l.map En.cells)) ∧ σ.sl 1=.c (.sl 12 160 (l.map En.cells)) ∧ σ.sl 5=.c (.v (.int .i64 i))
theorem fn1023s (l:List En):Fn Tryz.prog 23 [ens l,ens l] (bb true):=by
 refine fn_of (base:=1023000) ok1023 rfl fun σ h0 hr=>?_
 have s0:σ.sl 0=.c (.sl 12 160 (l.map En.cells)):=h0 0
 have s1:σ.sl 1=.c (.sl 12 160 (l.map En.cells)):=h0 1
 have hl:=real_ens (hr (ens l) (by simp))
 clear h0 hr
 unfold c1023
 simp [s0,s1,-W_block]
 rw [W_block]
 refine W_loop (J1023 l) l.length ⟨0,by simp,by simp [s0],by simp [s1],by simp⟩ ?_
 clear s0 s1 σ
 rintro m σ ⟨i,hm,s0,s1,s5⟩
 unfold c1023b0
 by_cases hi:i < l.length
 ·have w1:=wrap_succ (i:=i) (by omega)
  obtain ⟨e,he⟩:=at_of hi
  obtain ⟨_,he2⟩:=getE he
  simp [s0,s1,s5,hi]
  refine W_dregA ?_
  simp [s0,s1,s5,hi,he2,En.cells]
  refine GCallA.fn (fun _=>fn45 e.typ e.typ) (by simp [tm,cells_eq]) (by simp) rfl ?_
  rw [eqb_self]
  simp [bb,s0,s1,s5,hi,he2,En.cells]
  refine GCallA.fn (fun _=>fn45 e.body e.body) (by simp [tm,cells_eq]) (by simp) rfl ?_
  rw [eqb_self]
  simp [bb,s0,s1,s5,hi,he2,En.cells]
  refine GCallA.fn (fun _=>fn86 e.block e.block) (by simp [bm,B.cells]) (by simp) rfl ?_
  rw [B.eqb_self]
  simp [bb]
  refine realC_n ?_
  simp [s5,w1]
  exact ⟨m - 1,by omega,i + 1,by omega,by simp [s0],by simp [s1],by simp⟩
 ·have:i=l.length:=by omega
  subst this
  simp [s0,s5,r1023,bb]
structure FU4 (l:List En) (n:Nat) (σ:St):Prop where
 s0:σ.sl 0=.c (.sl 12 160 (l.map En.cells))
 s1:σ.sl 1=.c (.v (.int .i64 n))
def J1024a (l:List En) (n:Nat) (o ms:List Int) (m:Nat) (σ:St):Prop:=∃ i:Nat,i + m=ms.length ∧ FU4 l n σ ∧ σ.sl 5=is ((ms.take i).foldl joinI o) ∧ σ.sl 6=.c (.sl 1 8 (ic ms)) ∧ σ.sl 7=.c (.v (.int .i64 i))
theorem loop1024a {σ:St} {Q:SEx → St → Prop} (l:List En) (n:Nat) (o ms:List Int) (h1:o.length ≤ 10000000) (h2:ms.length ≤ 10000000) (H:FU4 l n σ) (s5:σ.sl 5=is o) (s6:σ.sl 6=.c (.sl 1 8 (ic ms))) (s7:σ.sl 7=.c (.v (.int .i64 (0:Nat))))
  (hQ:∀ σ',FU4 l n σ' → σ'.sl 5=is (ms.foldl joinI o) → Q .normal σ'):W Tryz.prog 1024000 (.loop c1024b0) σ (onBlock 0 Q):=by
 refine W_loop (J1024a l n o ms) ms.length ⟨0,by simp,H,by simpa using s5,s6,s7⟩ ?_
 clear H s5 s6 s7 σ
 rintro m σ ⟨i,hm,⟨s0,s1⟩,s5,s6,s7⟩
 simp only [is] at s5
 unfold c1024b0
 by_cases hi:i < ms.length
 ·have w1:=wrap_succ (i:=i) (by omega)
  obtain ⟨x,hx⟩:=at_of hi
  obtain ⟨_,hx2⟩:=getE hx
  have hfl:=fold_len (ms.take i) o
  have htl:(ms.take i).length ≤ ms.length:=by simp;omega
  have htk:(ms.take (i + 1)).foldl joinI o=joinI ((ms.take i).foldl joinI o) x:=by rw [take_succ' hx,List.foldl_append];rfl
  simp [s5,s6,s7,hi,hx2]
  refine ECall.fn (fn110 ((ms.take i).foldl joinI o) x (by omega)) (by simp [is,ib]) (by simp) rfl fun _=>?_
  simp [is,s7,w1]
  exact ⟨m - 1,by omega,i + 1,by omega,⟨by simp [s0],by simp [s1]⟩,by simp [htk,is],by simp [s6],by simp⟩
 ·have:i=ms.length:=by omega
  subst this
  simp [s6,s7]
  exact hQ _ ⟨by simp [s0],by simp [s1]⟩ (by simpa [is] using s5)
def J1024b (l:List En) (n:Nat) (e:En) (o:List Int) (m:Nat) (σ:St):Prop:=∃ (j:Nat) (a:List Int),(e.base + j + m=n ∨ (n:Int) ≤ e.base + j) ∧ (3 ≤ e.kind → j=0 ∨ e.base + j ≤ n) ∧ Srt a ∧ a.length ≤ o.length + j ∧ j ≤ n + 1 ∧ (∀ x,x ∈ a ↔ x ∈ o ∨ (e.base ≤ x ∧ x < e.base + j)) ∧ (¬ 3 ≤ e.kind → j=0) ∧ FU4 l n σ ∧ σ.sl 5=is a ∧ σ.sl 8=.c (.v (.int .i64 (e.base + j)))
theorem loop1024b {σ:St} {Q:SEx → St → Prop} (l:List En) (n:Nat) (e:En) (he:l[n]? = some e) (hb:3 ≤ e.kind → 0 ≤ e.base) (hn:n ≤ 1000) (o:List Int) (ho:Srt o) (h1:o.length ≤ 10000000) (H:FU4 l n σ) (s5:σ.sl 5=is o) (s8:σ.sl 8=.c (.v (.int .i64 e.base)))
  (hQ:∀ σ' a,Srt a → (∀ x,x ∈ a ↔ x ∈ o ∨ (3 ≤ e.kind ∧ e.base ≤ x ∧ x < n)) → σ'.sl 5=is a → Q .normal σ'):W Tryz.prog 1024000 (.loop c1024b1) σ (onBlock 2 Q):=by
 obtain ⟨hnl,he2⟩:=getE he
 refine W_loop (J1024b l n e o) ((n:Int) - e.base).toNat ⟨0,o,by omega,by omega,ho,by omega,by omega,fun x=>by constructor;exact .inl;rintro (h | h);exact h;omega,by omega,H,s5,by simpa using s8⟩ ?_
 clear H s5 s8 σ
 rintro m σ ⟨j,a,hm,hj,ha,hal,hjn,hmem,hk0,⟨s0,s1⟩,s5,s8⟩
 simp only [is] at s5
 unfold c1024b1
 by_cases hk:3 ≤ e.kind
 ·have hb0:=hb hk
  have hk2:2 < e.kind:=by omega
  by_cases hi:e.base + j < n
  ·have w1:IntKind.wrap .i64 (e.base + (j:Int) + 1)=e.base + ((j + 1:Nat):Int):=by rw [wrap_id (by omega) (by omega)];omega
   obtain ⟨q1,q2⟩:=join_srt (e.base + j) ha
   have q3:=join_len a (e.base + j)
   simp [s0,s1,s5,s8,hi,hnl,he2,En.cells,hk2]
   refine ECall.fn (fn110 a (e.base + j) (by omega)) (by simp [is,ib]) (by simp) rfl fun _=>?_
   simp [is,s8,w1,-Int.natCast_add]
   refine ⟨m - 1,by omega,j + 1,joinI a (e.base + j),by omega,by omega,q1,by omega,by omega,fun x=>?_,by omega,⟨by simp [s0],by simp [s1]⟩,by simp [is],by simp⟩
   rw [q2,hmem]
   constructor
   ·rintro ((h | h) | h)
    ·exact .inl h
    ·exact .inr (by omega)
    ·exact .inr (by omega)
   ·rintro (h | h)
    ·exact .inl (.inl h)
    ·by_cases e2:x=e.base + j
     ·exact .inr e2
     ·exact .inl (.inr (by omega))
  ·simp [s0,s1,s5,s8,hi,hnl,he2,En.cells]
   refine hQ _ a ha (fun x=>?_) (by simp [is,s5])
   rw [hmem]
   constructor
   ·rintro (h | h)
    ·exact .inl h
    ·exact .inr ⟨hk,by have:=hj hk;omega⟩
   ·rintro (h | ⟨_,h⟩)
    ·exact .inl h
    ·exact .inr (by omega)
 ·have hk2:¬ 2 < e.kind:=by omega
  have hj0:=hk0 hk
  subst hj0
  have fin:∀ {σ':St},σ'.sl 5=is a → Q .normal σ':=fun h=>hQ _ a ha (fun x=>by
   rw [hmem]
   constructor
   ·rintro (h | h)
    ·exact .inl h
    ·omega
   ·rintro (h | ⟨h,_⟩)
    ·exact .inl h
    ·exact absurd h hk) h
  by_cases hi:e.base + ((0:Nat):Int) < n
  ·have hi':e.base < n:=by simpa using hi
   simp [s0,s1,s5,s8,hi',hnl,he2,En.cells,hk2]
   exact fin (by simp [is,s5])
  ·have hi':¬ e.base < n:=by simpa using hi
   simp [s0,s1,s5,s8,hi',hnl,he2,En.cells]
   exact fin (by simp [is,s5])
theorem fn1024 (l:List En) (n:Nat) (e:En) (he:l[n]? = some e) (hn:n ≤ 1000) (hO:e.Ok) (hb:3 ≤ e.kind → 0 ≤ e.base):Fn Tryz.prog 24 [ens l,ib n] (is (usesE n e)):=by
 refine fn_of (base:=1024000) ok1024 rfl fun σ h0 hr=>?_
 have s0:σ.sl 0=.c (.sl 12 160 (l.map En.cells)):=h0 0
 have s1:σ.sl 1=.c (.v (.int .i64 n)):=h0 1
 clear h0 hr
 obtain ⟨hnl,he2⟩:=getE he
 have c1:=fn61 e.typ hO.typ.1
 have c2:=fn61 e.body hO.body.1
 rw [← consts_rcons] at c1 c2
 have l1:=consts_len hO.typ
 have l2:=consts_len hO.body
 obtain ⟨f1,f2⟩:=fold_srt e.body.consts (consts_facts e.typ).1
 have fl:=fold_len e.body.consts e.typ.consts
 unfold c1024
 simp [s0,s1,hnl,he2,En.cells]
 refine ECall.fn c1 (by simp [tm,cells_eq]) (by simp) rfl fun _=>?_
 simp [is,s0,s1,hnl,he2,En.cells]
 refine ECall.fn c2 (by simp [tm,cells_eq]) (by simp) rfl fun _=>?_
 simp [is,-W_block]
 rw [W_block]
 refine loop1024a l n e.typ.consts e.body.consts (by omega) (by omega) ⟨by simp [s0],by simp [s1]⟩ (by simp [is]) (by simp [ic]) (by simp) fun σ' H q5=>?_
 obtain ⟨q0,q1⟩:=H
 simp only [is] at q5
 simp [q0,q1,hnl,he2,En.cells,-W_block]
 rw [W_block]
 refine loop1024b l n e he hb hn _ f1 (by omega) ⟨by simp [q0],by simp [q1]⟩ (by simp [q5,is]) (by simp) fun σ' a ha hm p5=>?_
 have:a=usesE n e:=by
  refine srt_ext ha (sortI_srt (seenE_nodup n e)) fun x=>?_
  rw [hm,f2,usesE,sortI_mem,seenE_mem]
 subst this
 simp [p5,is,r1024]
end Go.Abs

namespace Go.Abs
open Go.Proofs
theorem CS.eqv {l:List En} {xs a b s t:List Int} (h:CS l xs a s) (h1:∀ x,x ∈ a ↔ x ∈ b) (h2:∀ x,x ∈ s ↔ x ∈ t) (ht:t.Nodup):CS l xs b t:=by
 have k:∀ x,x ∈ a ∨ x ∈ s ↔ x ∈ b ∨ x ∈ t:=fun x=>by rw [h1,h2]
 exact ⟨ht,fun x hx=>h.range x ((k x).2 hx),fun x hx=>h.rch x ((k x).2 hx),fun x hx=>(k x).1 (h.all x hx),fun y hy x hx=>(k x).1 (h.clo y ((h2 y).2 hy) x hx)⟩
theorem srt_nodup {l:List Int} (h:Srt l):l.Nodup:=List.Pairwise.imp (fun h=>by omega) h
theorem ic_cons (n:Int) (l:List Int):ic (n :: l)=[.v (.int .i64 n)] :: ic l:=rfl
theorem CS.front {l:List En} (hR:RowOK l) {xs r out:List Int} {n:Int} (h:CS l xs (n :: r) out) (ho:Srt out):(n ∈ out → CS l xs r out) ∧
  (n ∉ out → CS l xs (r ++ usesAt l n) (joinI out n) ∧ (usesAt l n).length ≤ 200) ∧ (joinI out n).length=if n ∈ out then out.length else out.length + 1:=by
 have h':CS l xs (r ++ [n]) out:=h.eqv (fun x=>by simp;exact Or.comm) (fun _=>Iff.rfl) h.nodup
 obtain ⟨j1,j2⟩:=join_srt n ho
 refine ⟨fun hn=>h'.skip hn,fun hn=>?_,?_⟩
 ·obtain ⟨t1,t2,t3⟩:=h'.take hR hn
  exact ⟨t1.eqv (fun _=>Iff.rfl) (fun x=>by rw [addK_mem,j2]) (srt_nodup j1),t3⟩
 ·have hp:∀ {a b:List Int},a.Nodup → b.Nodup → (∀ x,x ∈ a ↔ x ∈ b) → a.length=b.length:=fun ha hb hab=>((List.perm_ext_iff_of_nodup ha hb).2 hab).length_eq
  split
  ·rename_i hn
   exact hp (srt_nodup j1) h.nodup fun x=>by rw [j2];exact ⟨fun q=>q.elim id fun e=>e ▸ hn,.inl⟩
  ·rename_i hn
   rw [hp (b:=n :: out) (srt_nodup j1) (by simp [hn,h.nodup]) fun x=>by rw [j2];simp;exact Or.comm]
   rfl
def O5 (out:List Int) (v:AV):Prop:=v=is out ∨ (v=.c (.cap 1 8 []) ∧ out=[])
def J1025 (l:List En) (xs:List Int) (m:Nat) (σ:St):Prop:=∃ K q todo out,((K=1025300 ∧ q=.row 3 1 8 (ic todo)) ∨ (K=1025018 ∧ q=.cut 3 1 8 (ic todo)) ∨ (K=1025034 ∧ q=.cut 3 1 8 (ic todo))) ∧ CS l xs todo out ∧ Srt out ∧ out.length ≤ l.length ∧
 (l.length - out.length) * 201 + todo.length ≤ m ∧ m ≤ 2000000 ∧ σ.sl 0=.c (.sl 12 160 (l.map En.cells)) ∧ O5 out (σ.sl 5) ∧ σ.sl 6=.c (.own K (σ.tg K)) ∧ σ.ob K=some q
theorem fn1025 (l:List En) (hR:RowOK l) (xs:List Int) (hx:xs.length ≤ 1000000) (hr:∀ x,x ∈ xs → 0 ≤ x ∧ x < l.length):Fn Tryz.prog 25 [ens l,is xs] (is (needsL l xs)):=by
 refine fn_of (base:=1025000) ok1025 rfl fun σ h0 hr'=>?_
 have s0:σ.sl 0=.c (.sl 12 160 (l.map En.cells)):=h0 0
 have s1:σ.sl 1=.c (.sl 1 8 (ic xs)):=h0 1
 clear h0 hr'
 have hll:=hR.len
 have hCS:CS l xs xs []:=⟨by simp,fun x hx=>hr x (by simpa using hx),fun x hx=>.base (by simpa using hx),fun x hx=>.inl hx,fun y hy=>by cases hy⟩
 unfold c1025
 simp [s0,s1]
 refine ECall.new 1025300 (sp1020 xs) rfl rfl (by simp [is,ic]) (by simp) fun hx9=>?_
 clear hx9
 simp [-W_block]
 rw [W_block]
 refine W_loop (J1025 l xs) (l.length * 201 + xs.length) ⟨1025300,_,xs,[],.inl ⟨rfl,rfl⟩,hCS,by simp [Srt],by simp,by simp,by omega,by simp [s0],.inr ⟨by simp,rfl⟩,by simp,by simp⟩ ?_
 clear s0 s1 σ hCS hx hr
 rintro m σ ⟨K,q,todo,out,hK,hC,hS,hol,hm,hm2,s0,s5,s6,o6⟩
 unfold c1025b0
 cases todo with
 | nil=>
  have:needsL l xs=out:=srt_ext (needsL_srt l xs) hS fun x=>by rw [← hC.done,sortI_mem]
  rw [this]
  rcases hK with ⟨rfl,rfl⟩ | ⟨rfl,rfl⟩ | ⟨rfl,rfl⟩ <;> rcases s5 with s5 | ⟨s5,rfl⟩ <;>
  simp [s0,s5,s6,o6,r1025,is,ic]
 | cons n r=>
  have hnr:=hC.range n (.inl (by simp))
  obtain ⟨f1,f2,f3⟩:=hC.front hR hS
  obtain ⟨j1,j2⟩:=join_srt n hS
  have hcall:=fn110 out n (by omega)
  simp at hm
  obtain ⟨e,he⟩:=at_of (ts:=l) (i:=n.toNat) (by omega)
  have hcu:=fn1024 l n.toNat e he (by omega) (hR.ok e (List.mem_of_getElem? he)) (right_base (hR.right n.toNat e he))
  have hu:usesAt l n=usesE n.toNat e:=by simp [usesAt,he]
  have hnn:((n.toNat:Nat):Int)=n:=by omega
  rw [hnn,← hu] at hcu
  by_cases hn:n ∈ out
  ·rw [if_pos hn] at f3
   have hC':=f1 hn
   rcases hK with ⟨rfl,rfl⟩ | ⟨rfl,rfl⟩ | ⟨rfl,rfl⟩ <;> rcases s5 with s5 | ⟨s5,rfl⟩ <;>
   ·simp [s0,s5,s6,o6,ic_cons,is]
    refine ⟨by omega,?_⟩
    refine ECall.fn hcall (by simp [is,ib,ic]) (by simp) rfl fun _=>?_
    simp [is,f3,s5]
    exact ⟨m - 1,by omega,1025018,_,r,_,.inr (.inl ⟨rfl,rfl⟩),hC',hS,hol,by omega,by omega,by simp [s0],by simp [O5,s5,is],by simp,by simp⟩
  ·rw [if_neg hn] at f3
   obtain ⟨hC',hul⟩:=f2 hn
   have hsl':(joinI out n).length ≤ l.length:=nodup_le (srt_nodup j1) fun x hx=>hC'.range x (.inr hx)
   have hne:¬ ((joinI out n).length:Int)=out.length:=by omega
   have hne2:¬ (joinI out n).length=out.length:=by omega
   have hn0:¬ joinI out n=[]:=fun h=>by rw [h] at f3;simp at f3
   rcases hK with ⟨rfl,rfl⟩ | ⟨rfl,rfl⟩ | ⟨rfl,rfl⟩ <;> rcases s5 with s5 | ⟨s5,rfl⟩ <;>
   ·simp [s0,s5,s6,o6,ic_cons,is]
    refine ⟨by omega,?_⟩
    refine ECall.fn hcall (by simp [is,ib,ic]) (by simp) rfl fun _=>?_
    simp [is,hne,hne2,hn0,s5]
    refine ECall.fn hcall (by simp [is,ib,ic]) (by simp) rfl fun _=>?_
    simp [is,s0]
    refine ECall.fn hcu (by simp [ens,ib]) (by simp) rfl fun _=>?_
    simp [is]
    refine ⟨by simp [room];omega,m - 1,by omega,1025034,_,r ++ usesAt l n,_,.inr (.inr ⟨rfl,rfl⟩),hC',j1,hsl',by simp;omega,by omega,by simp [s0],.inl (by simp [is]),by simp,by simp [ic]⟩
end Go.Abs

namespace Go.Abs
open Go.Proofs
def dL (n:Nat) (out:List Int):List (List Cell):=(List.range n).map fun (i:Nat)=>[.v (.bool (out.contains (i:Int)))]
@[simp] theorem dL_len (n:Nat) (out:List Int):(dL n out).length=n:=by simp [dL]
theorem dL_at {n i:Nat} {out:List Int} (h:i < n):(dL n out)[i]? = some [.v (.bool (out.contains (i:Int)))]:=by simp [dL,h]
@[simp] theorem dL_get (n:Nat) (out:List Int) (i:Nat) (h:i < (dL n out).length):(dL n out)[i]=[.v (.bool (out.contains (i:Int)))]:=by simp [dL]
theorem dL_nil (n:Nat):List.replicate n [Cell.v (.bool false)]=dL n []:=by
 refine List.ext_getElem (by simp) fun j h1 h2=>?_
 simp [dL]
theorem dL_set {n k:Nat} {out:List Int}:(dL n out).set k [.v (.bool true)]=dL n (out ++ [(k:Int)]):=by
 refine List.ext_getElem (by simp) fun j h1 h2=>?_
 rw [List.getElem_set]
 split
 ·rename_i e;subst e;simp [dL]
 ·rename_i e
  have:¬ ((j:Int)=(k:Int)):=by omega
  simp [dL,this]
def frE (out:List Int) (E:List Edge2) (i:Int):Bool:=!out.contains i && pre E out i == 0
theorem pre_snoc (E:List Edge2) (out:List Int) (i:Int) (p:Edge2):pre (E ++ [p]) out i=pre E out i + if p.2=i ∧ p.1 ∉ out then 1 else 0:=by
 unfold pre
 rw [List.countP_append,List.countP_cons,List.countP_nil]
 by_cases h1:p.2=i <;> by_cases h2:p.1 ∈ out <;> simp [h1,h2]
theorem frE_snoc (E:List Edge2) (out:List Int) (i:Int) (p:Edge2):frE out (E ++ [p]) i=(frE out E i && (decide (p.2 ≠ i) || out.contains p.1)):=by
 unfold frE
 rw [pre_snoc]
 by_cases h1:p.2=i <;> by_cases h2:p.1 ∈ out <;> simp [h1,h2]
theorem frE_more (E F:List Edge2) (out:List Int) (i:Int) (h:frE out E i=false):frE out (E ++ F) i=false:=by
 induction F generalizing E with
 | nil=>simpa using h
 | cons p F ih=>
  rw [show E ++ p :: F=(E ++ [p]) ++ F by simp]
  exact ih _ (by rw [frE_snoc,h];rfl)
def nxI:Option Int → Int
 | some k=>k
 | none=>-1
def OS (out:List Int) (σ:St):Prop:=(σ.sl 6=.c (.cap 1 8 []) ∧ out=[]) ∨ (σ.sl 6=.c (.own 1026068 (σ.tg 1026068)) ∧ σ.ob 1026068=some (.row 3 1 8 (ic out)))
structure FOr (n:Nat) (E:List Edge2) (out:List Int) (σ:St):Prop where
 s0:σ.sl 0=.c (.v (.int .i64 n))
 s1:σ.sl 1=.c (.sl 2 16 (ecs E))
 s7:σ.sl 7=.c (.own 1026013 (σ.tg 1026013))
 o7:σ.ob 1026013=some (.mrow 4 1 1 (dL n out))
 os:OS out σ
theorem FOr.mono {n:Nat} {E:List Edge2} {out:List Int} {σ σ':St} (H:FOr n E out σ) (hs:∀ s,s=0 ∨ s=1 ∨ s=6 ∨ s=7 → σ'.sl s=σ.sl s) (ho:∀ k,σ'.ob k=σ.ob k) (ht:∀ k,σ'.tg k=σ.tg k):FOr n E out σ':=
 ⟨by rw [hs 0 (by simp)];exact H.s0,by rw [hs 1 (by simp)];exact H.s1,by rw [hs 7 (by simp),ht];exact H.s7,by rw [ho];exact H.o7,by unfold OS;rw [hs 6 (by simp),ho,ht];exact H.os⟩
def J1026a (n:Nat) (E:List Edge2) (out:List Int) (i nx:Int) (m:Nat) (σ:St):Prop:=∃ k:Nat,k + m=E.length ∧ FOr n E out σ ∧ σ.sl 8=.c (.v (.int .i64 nx)) ∧ σ.sl 9=.c (.v (.int .i64 i)) ∧ σ.sl 10=.c (.v (.bool (frE out (E.take k) i))) ∧ σ.sl 11=.c (.v (.int .i64 k))
theorem loop1026a {σ:St} {Q:SEx → St → Prop} (n:Nat) (E:List Edge2) (out:List Int) (hE:E.length ≤ 4000) (hb:∀ p,p ∈ E → badE n p=false) (i:Int) (nx:Int) (H:FOr n E out σ)
  (s8:σ.sl 8=.c (.v (.int .i64 nx))) (s9:σ.sl 9=.c (.v (.int .i64 i))) (s10:σ.sl 10=.c (.v (.bool (!out.contains i)))) (s11:σ.sl 11=.c (.v (.int .i64 (0:Nat))))
  (hQ:∀ σ',FOr n E out σ' → σ'.sl 8=.c (.v (.int .i64 nx)) → σ'.sl 9=.c (.v (.int .i64 i)) → σ'.sl 10=.c (.v (.bool (frE out E i))) → Q .normal σ'):W Tryz.prog 1026000 (.loop c1026b0) σ (onBlock 4 Q):=by
 refine W_loop (J1026a n E out i nx) E.length ⟨0,by simp,H,s8,s9,by rw [s10];simp [frE,pre],s11⟩ ?_
 clear H s8 s9 s10 s11 σ
 rintro m σ ⟨k,hm,H,s8,s9,s10,s11⟩
 obtain ⟨s0,s1,s7,o7,os⟩:=H
 have H:FOr n E out σ:=⟨s0,s1,s7,o7,os⟩
 unfold c1026b0
 by_cases hk:k < E.length
 ·have w1:=wrap_succ (i:=k) (by omega)
  have hsn:frE out (E.take (k + 1)) i=(frE out (E.take k) i && (decide (E[k].2 ≠ i) || out.contains E[k].1)):=by
   rw [List.take_succ_eq_append_getElem hk,frE_snoc]
  have hall:=frE_more (E.take k) (E.drop k) out i
  rw [List.take_append_drop] at hall
  have hbk:=hb E[k] (List.getElem_mem hk)
  generalize frE out (E.take k) i=b at *
  cases b with
  | false=>
   simp [s1,s10,s11,hk]
   exact hQ _ (H.mono (by rintro s (rfl | rfl | rfl | rfl) <;> simp) (by simp) (by simp)) (by simp [s8]) (by simp [s9]) (by simp [s10,hall rfl])
  | true=>
   have hr:0 ≤ E[k].1 ∧ E[k].1 < n:=by simp [badE] at hbk;omega
   have hr2:E[k].1.toNat < n:=by omega
   have hmx:max E[k].1 0=E[k].1:=by omega
   by_cases he:E[k].2=i
   ·simp only [he,ne_eq,not_true,decide_false,Bool.false_or,Bool.true_and] at hsn
    simp [s1,s7,o7,s8,s9,s10,s11,hk,ec,he,hr,hr2,hmx,w1]
    refine ⟨m - 1,by omega,k + 1,by omega,H.mono (by rintro s (rfl | rfl | rfl | rfl) <;> simp) (by simp) (by simp),by simp [s8],by simp [s9],by simp [hsn],by simp⟩
   ·have he2:decide (E[k].2 ≠ i)=true:=by simp [he]
    simp only [he2,Bool.true_or,Bool.and_true] at hsn
    simp [s1,s7,o7,s8,s9,s10,s11,hk,ec,he,hr,hr2,hmx,w1]
    refine ⟨m - 1,by omega,k + 1,by omega,H.mono (by rintro s (rfl | rfl | rfl | rfl) <;> simp) (by simp) (by simp),by simp [s8],by simp [s9],by simp [hsn],by simp⟩
 ·have:k=E.length:=by omega
  subst this
  rw [List.take_length] at s10
  simp [s1,s10,s11]
  exact hQ _ (H.mono (by rintro s (rfl | rfl | rfl | rfl) <;> simp) (by simp) (by simp)) (by simp [s8]) (by simp [s9]) (by simp [s10])
theorem nums_succ (i:Nat):nums (i + 1)=nums i ++ [(i:Int)]:=by simp [nums,List.range_succ]
def J1026b (n:Nat) (E:List Edge2) (out:List Int) (m:Nat) (σ:St):Prop:=∃ i:Nat,i + m=n ∧ FOr n E out σ ∧ σ.sl 8=.c (.v (.int .i64 (nxI ((nums i).find? (frE out E))))) ∧ σ.sl 9=.c (.v (.int .i64 i))
theorem loop1026b {σ:St} {Q:SEx → St → Prop} (n:Nat) (E:List Edge2) (out:List Int) (hn:n ≤ 200) (hE:E.length ≤ 4000) (hb:∀ p,p ∈ E → badE n p=false) (H:FOr n E out σ)
  (s8:σ.sl 8=.c (.v (.int .i64 (-1)))) (s9:σ.sl 9=.c (.v (.int .i64 (0:Nat))))
  (hQ:∀ σ',FOr n E out σ' → σ'.sl 8=.c (.v (.int .i64 (nxI (nextG n E out)))) → Q .normal σ'):W Tryz.prog 1026000 (.loop c1026b1) σ (onBlock 2 Q):=by
 refine W_loop (J1026b n E out) n ⟨0,by simp,H,by simpa [nums,nxI] using s8,s9⟩ ?_
 clear H s8 s9 σ
 rintro m σ ⟨i,hm,H,s8,s9⟩
 obtain ⟨s0,s1,s7,o7,os⟩:=H
 have H:FOr n E out σ:=⟨s0,s1,s7,o7,os⟩
 have hall:∀ k,(nums i).find? (frE out E)=some k → nextG n E out=some k:=fun k hk=>by
  have e:nums n=nums i ++ (List.range' i (n - i)).map fun (j:Nat)=>(j:Int):=by
   unfold nums
   rw [← List.map_append,List.range_eq_range',List.range_eq_range']
   congr 1
   have:=List.range'_append_1 (s:=0) (m:=i) (n:=n - i)
   rw [Nat.zero_add] at this
   rw [this];congr 1;omega
  show (nums n).find? (frE out E)=some k
  rw [e,List.find?_append,hk]
  rfl
 unfold c1026b1
 by_cases hi:i < n
 ·have w1:=wrap_succ (i:=i) (by omega)
  have hd:=dL_at (n:=n) (i:=i) (out:=out) hi
  cases hf:(nums i).find? (frE out E) with
  | some k=>
   have hk0:¬ k < 0:=by
    have:=mem_nums.1 (List.mem_of_find?_eq_some hf)
    omega
   rw [hf] at s8
   simp only [nxI] at s8
   simp [s0,s8,s9,hi,hk0]
   exact hQ _ (H.mono (by rintro s (rfl | rfl | rfl | rfl) <;> simp) (by simp) (by simp)) (by simp [hall k hf,nxI,s8])
  | none=>
   rw [hf] at s8
   simp only [nxI] at s8
   have hfn:(nums (i + 1)).find? (frE out E)=if frE out E i then some (i:Int) else none:=by
    rw [nums_succ,List.find?_append,hf]
    by_cases h:frE out E i <;> simp [h]
   simp [s0,s7,o7,s8,s9,hi,hd,-W_block]
   rw [W_block]
   simp [s0,s7,o7,s8,s9,hi,hd,-W_block]
   rw [W_block]
   refine loop1026a n E out hE hb i (-1) (H.mono (by rintro s (rfl | rfl | rfl | rfl) <;> simp) (by simp) (by simp)) (by simp [s8]) (by simp [s9]) (by simp) (by simp) fun σ' H' q8 q9 q10=>?_
   clear s0 s1 s7 o7 os s8 s9 H σ
   generalize frE out E i=b at *
   cases b with
   | true=>
    simp [q8,q9,q10,w1]
    exact ⟨m - 1,by omega,i + 1,by omega,H'.mono (by rintro s (rfl | rfl | rfl | rfl) <;> simp) (by simp) (by simp),by simp [hfn,nxI],by simp⟩
   | false=>
    simp [q8,q9,q10,w1]
    exact ⟨m - 1,by omega,i + 1,by omega,H'.mono (by rintro s (rfl | rfl | rfl | rfl) <;> simp) (by simp) (by simp),by simp [hfn,nxI,q8],by simp⟩
 ·have:i=n:=by omega
  subst this
  simp [s0,s8,s9]
  exact hQ _ (H.mono (by rintro s (rfl | rfl | rfl | rfl) <;> simp) (by simp) (by simp)) (by rw [show nextG i E out=(nums i).find? (frE out E) from rfl];simpa using s8)
def J1026c (n:Nat) (E:List Edge2) (m:Nat) (σ:St):Prop:=∃ out,m=n - out.length ∧ Run n E out ∧ FOr n E out σ
def ordP (n:Nat) (E:List Edge2):AV:=.tup [is (if (gr n E).length < n then [] else gr n E),bb (decide (¬ (gr n E).length < n))]
theorem fn1026 (n:Nat) (E:List Edge2) (hn:n ≤ 200) (hE:E.length ≤ 4000) (hb:∀ p,p ∈ E → badE n p=false):Fn Tryz.prog 26 [ib n,eds E] (ordP n E):=by
 refine fn_of (base:=1026000) ok1026 rfl fun σ h0 hr=>?_
 have s0:σ.sl 0=.c (.v (.int .i64 n)):=h0 0
 have s1:σ.sl 1=.c (.sl 2 16 (ecs E)):=h0 1
 clear h0 hr
 unfold c1026
 simp [s0,s1,-W_block]
 refine ⟨by simp [room];omega,?_⟩
 rw [W_block]
 refine W_loop (J1026c n E) n ⟨[],by simp,.nil,by simp [s0],by simp [s1],by simp,by simp [dL_nil],.inl ⟨by simp,rfl⟩⟩ ?_
 clear s0 s1 σ
 rintro m σ ⟨out,hm,hR,H⟩
 have hle:=nodup_le hR.nodup hR.range
 obtain ⟨s0,s1,s7,o7,os⟩:=H
 have H:FOr n E out σ:=⟨s0,s1,s7,o7,os⟩
 unfold c1026b2
 by_cases hl:out.length < n
 ·have body:∀ σ1:St,FOr n E out σ1 → W Tryz.prog 1026000 (.seq (.reg
    [⟨some 8,none,.mv (.k (.int .i64 (-1)))⟩])
  (.seq (.seq (.reg
     [⟨some 9,none,.mv (.k (.int .i64 0))⟩])
   (.block 2 (.loop c1026b1)))
  (.seq (.seq (.reg
     [⟨some 60,none,.mv (.t 8)⟩,
      ⟨some 61,none,.bin .lss (.t 60) (.k (.int .i64 0))⟩])
   (.cond (.t 61)
    (.seq (.reg
      [⟨some 4,none,.mv (.nil 1 8)⟩,
       ⟨some 5,none,.mv (.k (.bool false))⟩])
    (.ret))
    (.skip)))
  (.seq (.reg
    [⟨some 62,none,.mv (.t 7)⟩,
     ⟨some 63,none,.mv (.t 8)⟩,
     ⟨some 64,none,.iad 4 1 (.t 62) (.t 63)⟩,
     ⟨none,none,.st1 4 (.t 64) (.k (.bool true))⟩])
  (.reg
   [⟨some 65,none,.mv (.t 6)⟩,
    ⟨some 66,none,.mv (.t 8)⟩,
    ⟨some 67,none,.lit 3 1 8 [.t 66]⟩,
    ⟨some 68,none,.app 3 1 8 (.t 65) (.t 67)⟩,
    ⟨some 6,none,.mv (.t 68)⟩]))))) σ1 (onBlock 1 (loopC (J1026c n E) m (onBlock 0 (seqC Tryz.prog 1026000 (.seq (.reg
   [⟨some 69,none,.mv (.t 6)⟩,
    ⟨some 4,none,.mv (.t 69)⟩,
    ⟨some 5,none,.mv (.k (.bool true))⟩])
 (.ret)) (onEnd [] r1026 (ordP n E) []))))):=by
   intro σ1 H1
   simp [-W_block]
   rw [W_block]
   refine loop1026b n E out hn hE hb (H1.mono (by rintro s (rfl | rfl | rfl | rfl) <;> simp) (by simp) (by simp)) (by simp) (by simp) fun σ2 H2 q8=>?_
   obtain ⟨q0,q1,q7,q9,qs⟩:=H2
   cases hx:nextG n E out with
   | none=>
    rw [hx] at q8
    simp only [nxI] at q8
    have hg:=hR.gr hx
    simp [q8,r1026,ordP,hg,hl,is,bb]
   | some k=>
    have hk:=nextG_is hx
    obtain ⟨k,rfl⟩:=Int.eq_ofNat_of_zero_le hk.1
    have hkn:k < n:=by omega
    rw [hx] at q8
    simp only [nxI] at q8
    have hR':=hR.snoc hx
    have hk0:¬ ((k:Int) < 0):=by omega
    rcases qs with ⟨q6,rfl⟩ | ⟨q6,q10⟩
    ·simp [q6,q7,q8,q9,hkn,hk0,dL_set]
     simp at hm hl;refine ⟨by simp [room],m - 1,by omega,[(k:Int)],by simp;omega,hR',by simp [q0],by simp [q1],by simp [q7],by simp,.inr ⟨by simp,by simp [ic]⟩⟩
    ·simp [q6,q7,q8,q9,q10,hkn,hk0,dL_set]
     refine ⟨by simp [room],by simp [room];omega,m - 1,by omega,out ++ [(k:Int)],by simp;omega,hR',by simp [q0],by simp [q1],by simp [q7],by simp,.inr ⟨by simp,by simp [ic]⟩⟩
  rcases os with ⟨s6,rfl⟩ | ⟨s6,o6⟩
  ·simp at hl
   simp [s0,s6,hl,-W_block]
   rw [W_block]
   exact body _ (H.mono (by rintro s (rfl | rfl | rfl | rfl) <;> simp) (by simp) (by simp))
  ·simp [s0,s6,o6,hl,-W_block]
   rw [W_block]
   exact body _ (H.mono (by rintro s (rfl | rfl | rfl | rfl) <;> simp) (by simp) (by simp))
 ·have hg:gr n E=out:=hR.gr (by
   cases hx:nextG n E out with
   | none=>rfl
   | some k=>
    have h2:=hR.snoc hx
    have:=nodup_le h2.nodup h2.range
    simp at this;omega)
  have hnl:¬ ((out.length:Int) < n):=by omega
  rcases os with ⟨s6,rfl⟩ | ⟨s6,o6⟩
  ·have:n=0:=by simp at hl;omega
   subst this
   simp [s0,s6,ordP,hg,r1026,is,bb]
  ·simp [s0,s6,o6,hl,ordP,hg,r1026,is,bb,ic]
end Go.Abs

namespace Go.Abs
open Go.Proofs
theorem set_ne {σ:St} {d s:Nat} {v:AV} (h:s ≠ d):(σ.set d v).sl s=σ.sl s:=by simp [h]
def Kps (b:Nat) (σ0 σ:St):Prop:=∀ s,s < b → σ.sl s=σ0.sl s
def J1008a (σ0:St) (E:List Edge2) (m:Nat) (σ:St):Prop:=∃ i:Nat,i + m=E.length ∧ Kps 21 σ0 σ ∧ σ.sl 4=.c (.sl 2 16 (ecs E)) ∧ σ.sl 13=.c (.own 1008050 (σ.tg 1008050)) ∧ σ.ob 1008050=some (.row 28 2 16 (ecs E)) ∧ σ.sl 21=.c (.v (.int .i64 i))
theorem loop1008a {σ:St} {Q:SEx → St → Prop} (E:List Edge2) (hE:E.length ≤ 4000) (s4:σ.sl 4=.c (.sl 2 16 (ecs E))) (s13:σ.sl 13=.c (.own 1008050 (σ.tg 1008050))) (o13:σ.ob 1008050=some (.row 28 2 16 (ecs E))) (s21:σ.sl 21=.c (.v (.int .i64 (0:Nat))))
  (hQ:∀ σ',Kps 21 σ σ' → Q .normal σ'):W Tryz.prog 1008000 (.loop c1008b0) σ (onBlock 0 Q):=by
 refine W_loop (J1008a σ E) E.length ⟨0,by simp,fun _ _=>rfl,s4,s13,o13,s21⟩ ?_
 clear s4 s13 o13 s21
 rintro m σ1 ⟨i,hm,hk,s4,s13,o13,s21⟩
 unfold c1008b0
 by_cases hi:i < E.length
 ·have w1:=wrap_succ (i:=i) (by omega)
  simp [s4,s21,hi]
  refine W_dregA ?_
  simp [s4,s13,o13,s21,hi,ec]
  refine realC_n ?_
  simp [s21,w1]
  exact ⟨m - 1,by omega,i + 1,by omega,fun s hs=>by simp (disch:=omega) only [set_ne];exact hk s hs,by simp [s4],by simp [s13],by simp [o13],by simp⟩
 ·have:i=E.length:=by omega
  subst this
  simp [s4,s21]
  exact hQ _ fun s hs=>by simp (disch:=omega) only [set_ne];exact hk s hs
def qV (len:Nat) (c:Int) (xs:List Int):Int:=if c ≠ 0 then c else if xs.any (outE len) then 14 else 0
def J1008b (σ0:St) (l:List En) (c:Int) (xs:List Int) (m:Nat) (σ:St):Prop:=∃ i:Nat,i + m=xs.length ∧ Kps 25 σ0 σ ∧ σ.sl 0=.c (.sl 12 160 (l.map En.cells)) ∧ σ.sl 2=.c (.sl 1 8 (ic xs)) ∧ σ.sl 25=.c (.v (.int .i64 (qV l.length c (xs.take i)))) ∧ σ.sl 26=.c (.v (.int .i64 i))
theorem loop1008b {σ:St} {Q:SEx → St → Prop} (l:List En) (c:Int) (xs:List Int) (hx:xs.length ≤ 4000) (s0:σ.sl 0=.c (.sl 12 160 (l.map En.cells))) (s2:σ.sl 2=.c (.sl 1 8 (ic xs))) (s25:σ.sl 25=.c (.v (.int .i64 c))) (s26:σ.sl 26=.c (.v (.int .i64 (0:Nat))))
  (hQ:∀ σ',Kps 25 σ σ' → σ'.sl 25=.c (.v (.int .i64 (qV l.length c xs))) → Q .normal σ'):W Tryz.prog 1008000 (.loop c1008b1) σ (onBlock 2 Q):=by
 refine W_loop (J1008b σ l c xs) xs.length ⟨0,by simp,fun _ _=>rfl,s0,s2,by rw [s25];by_cases h:c=0 <;> simp [qV,h],s26⟩ ?_
 clear s0 s2 s25 s26
 rintro m σ1 ⟨i,hm,hk,s0,s2,s25,s26⟩
 unfold c1008b1
 by_cases hi:i < xs.length
 ·have w1:=wrap_succ (i:=i) (by omega)
  by_cases hq:qV l.length c (xs.take i)=0
  ·have hc:c=0:=by
    by_cases h:c=0
    ·exact h
    ·simp [qV,h] at hq
   subst hc
   have ha:(xs.take i).any (outE l.length)=false:=by
    cases h:(xs.take i).any (outE l.length) with
    | false=>rfl
    | true=>simp [qV,h] at hq
   have hsn:qV l.length 0 (xs.take (i + 1))=if outE l.length xs[i] then 14 else 0:=by
    unfold qV
    rw [List.take_succ_eq_append_getElem hi,List.any_append,ha]
    simp
   rw [hq] at s25
   by_cases h1:xs[i] < 0
   ·have ho:outE l.length xs[i]=true:=by simp [outE,h1]
    rw [ho] at hsn
    simp [s0,s2,s25,s26,hi,h1,w1]
    exact ⟨m - 1,by omega,i + 1,by omega,fun s hs=>by simp (disch:=omega) only [set_ne];exact hk s hs,by simp [s0],by simp [s2],by simp [hsn],by simp⟩
   ·by_cases h2:(l.length:Int) ≤ xs[i]
    ·have ho:outE l.length xs[i]=true:=by simp [outE,h1,h2]
     rw [ho] at hsn
     simp [s0,s2,s25,s26,hi,h1,h2,w1]
     exact ⟨m - 1,by omega,i + 1,by omega,fun s hs=>by simp (disch:=omega) only [set_ne];exact hk s hs,by simp [s0],by simp [s2],by simp [hsn],by simp⟩
    ·have ho:outE l.length xs[i]=false:=by simp [outE];omega
     rw [ho] at hsn
     simp [s0,s2,s25,s26,hi,h1,h2,w1]
     exact ⟨m - 1,by omega,i + 1,by omega,fun s hs=>by simp (disch:=omega) only [set_ne];exact hk s hs,by simp [s0],by simp [s2],by simp [hsn,s25],by simp⟩
  ·have hall:qV l.length c xs=qV l.length c (xs.take i):=by
    unfold qV at hq ⊢
    by_cases h:c=0
    ·cases ha:(xs.take i).any (outE l.length) with
     | false=>rw [ha] at hq;simp [h] at hq
     | true=>
      have:xs.any (outE l.length)=true:=by rw [← List.take_append_drop i xs,List.any_append,ha];rfl
      simp [h,this]
    ·simp [h]
   simp [s0,s2,s25,s26,hi,hq]
   exact hQ _ (fun s hs=>by simp (disch:=omega) only [set_ne];exact hk s hs) (by simp [hall,s25])
 ·have:i=xs.length:=by omega
  subst this
  rw [List.take_length] at s25
  simp [s0,s2,s25,s26]
  exact hQ _ (fun s hs=>by simp (disch:=omega) only [set_ne];exact hk s hs) (by simp [s25])
def rV (n:Int) (r:Int) (E:List Edge2):Int:=if E.any (badE n) then 1 else r
def J1008c (σ0:St) (n r:Int) (E:List Edge2) (m:Nat) (σ:St):Prop:=∃ i:Nat,i + m=E.length ∧ Kps 28 σ0 σ ∧ σ.sl 3=.c (.v (.int .i64 n)) ∧ σ.sl 4=.c (.sl 2 16 (ecs E)) ∧ σ.sl 28=.c (.v (.int .i64 (rV n r (E.take i)))) ∧ σ.sl 29=.c (.v (.int .i64 i))
theorem loop1008c {σ:St} {Q:SEx → St → Prop} (n r:Int) (E:List Edge2) (hE:E.length ≤ 4000) (s3:σ.sl 3=.c (.v (.int .i64 n))) (s4:σ.sl 4=.c (.sl 2 16 (ecs E))) (s28:σ.sl 28=.c (.v (.int .i64 r))) (s29:σ.sl 29=.c (.v (.int .i64 (0:Nat))))
  (hQ:∀ σ',Kps 28 σ σ' → σ'.sl 28=.c (.v (.int .i64 (rV n r E))) → Q .normal σ'):W Tryz.prog 1008000 (.loop c1008b2) σ (onBlock 4 Q):=by
 refine W_loop (J1008c σ n r E) E.length ⟨0,by simp,fun _ _=>rfl,s3,s4,by rw [s28];simp [rV],s29⟩ ?_
 clear s3 s4 s28 s29
 rintro m σ1 ⟨i,hm,hk,s3,s4,s28,s29⟩
 unfold c1008b2
 by_cases hi:i < E.length
 ·have w1:=wrap_succ (i:=i) (by omega)
  have hsn:rV n r (E.take (i + 1))=if badE n E[i] then 1 else rV n r (E.take i):=by
   unfold rV
   rw [List.take_succ_eq_append_getElem hi,List.any_append]
   cases h:badE n E[i] <;> cases h2:(E.take i).any (badE n) <;> simp [h]
  by_cases h1:E[i].1 < 0
  ·rw [show badE n E[i]=true by simp [badE,h1]] at hsn
   simp [s3,s4,s28,s29,hi,ec,h1,w1]
   exact ⟨m - 1,by omega,i + 1,by omega,fun s hs=>by simp (disch:=omega) only [set_ne];exact hk s hs,by simp [s3],by simp [s4],by simp [hsn],by simp⟩
  by_cases h2:n ≤ E[i].1
  ·rw [show badE n E[i]=true by simp [badE,h2]] at hsn
   simp [s3,s4,s28,s29,hi,ec,h1,h2,w1]
   exact ⟨m - 1,by omega,i + 1,by omega,fun s hs=>by simp (disch:=omega) only [set_ne];exact hk s hs,by simp [s3],by simp [s4],by simp [hsn],by simp⟩
  by_cases h3:E[i].2 < 0
  ·rw [show badE n E[i]=true by simp [badE,h3]] at hsn
   simp [s3,s4,s28,s29,hi,ec,h1,h2,h3,w1]
   exact ⟨m - 1,by omega,i + 1,by omega,fun s hs=>by simp (disch:=omega) only [set_ne];exact hk s hs,by simp [s3],by simp [s4],by simp [hsn],by simp⟩
  by_cases h4:n ≤ E[i].2
  ·rw [show badE n E[i]=true by simp [badE,h4]] at hsn
   simp [s3,s4,s28,s29,hi,ec,h1,h2,h3,h4,w1]
   exact ⟨m - 1,by omega,i + 1,by omega,fun s hs=>by simp (disch:=omega) only [set_ne];exact hk s hs,by simp [s3],by simp [s4],by simp [hsn],by simp⟩
  ·rw [show badE n E[i]=false by simp [badE];omega] at hsn
   simp [s3,s4,s28,s29,hi,ec,h1,h2,h3,h4,w1]
   exact ⟨m - 1,by omega,i + 1,by omega,fun s hs=>by simp (disch:=omega) only [set_ne];exact hk s hs,by simp [s3],by simp [s4],by simp [hsn,s28],by simp⟩
 ·have:i=E.length:=by omega
  subst this
  rw [List.take_length] at s28
  simp [s4,s29]
  exact hQ _ (fun s hs=>by simp (disch:=omega) only [set_ne];exact hk s hs) (by simp [s28])
theorem uses_cases (l:List En) (n:Int):(chkR l ≠ 0 ∧ usesR l n=([],chkR l)) ∨ (chkR l=0 ∧ (n < 0 ∨ (l.length:Int) ≤ n) ∧ usesR l n=([],14)) ∨ (chkR l=0 ∧ ¬ n < 0 ∧ ¬ (l.length:Int) ≤ n ∧ ∃ e,l[n.toNat]? = some e ∧ usesR l n=(usesE n.toNat e,0)):=by
 unfold usesR
 by_cases hc:chkR l=0
 ·by_cases h:n < 0 ∨ (l.length:Int) ≤ n
  ·exact .inr (.inl ⟨hc,h,by rw [if_neg (by simp [hc]),if_pos h]⟩)
  ·obtain ⟨e,he⟩:=at_of (ts:=l) (i:=n.toNat) (by omega)
   exact .inr (.inr ⟨hc,by omega,by omega,e,he,by rw [if_neg (by simp [hc]),if_neg h,he]⟩)
 ·exact .inl ⟨hc,by rw [if_pos hc]⟩
structure FXd (l:List En) (n:Int) (xs:List Int) (m:Int) (E:List Edge2) (σ:St):Prop where
 s0:σ.sl 0=.c (.sl 12 160 (l.map En.cells))
 s1:σ.sl 1=.c (.v (.int .i64 n))
 s2:σ.sl 2=.c (.sl 1 8 (ic xs))
 s3:σ.sl 3=.c (.v (.int .i64 m))
 s4:σ.sl 4=.c (.sl 2 16 (ecs E))
 s14:σ.sl 14=is (usesR l n).1
 s15:σ.sl 15=ib (usesR l n).2
 s16:σ.sl 16=is (needsR l xs).1
 s17:σ.sl 17=ib (needsR l xs).2
 s18:σ.sl 18=is (ord m E).1
 s19:σ.sl 19=ib (ord m E).2
 s20:σ.sl 20=ib (chkR l)
theorem FXd.mono {l:List En} {n:Int} {xs:List Int} {m:Int} {E:List Edge2} {σ σ':St} (H:FXd l n xs m E σ) (h:Kps 21 σ σ'):FXd l n xs m E σ':=
 ⟨by rw [h 0 (by omega)];exact H.s0,by rw [h 1 (by omega)];exact H.s1,by rw [h 2 (by omega)];exact H.s2,by rw [h 3 (by omega)];exact H.s3,by rw [h 4 (by omega)];exact H.s4,by rw [h 14 (by omega)];exact H.s14,by rw [h 15 (by omega)];exact H.s15,by rw [h 16 (by omega)];exact H.s16,by rw [h 17 (by omega)];exact H.s17,by rw [h 18 (by omega)];exact H.s18,by rw [h 19 (by omega)];exact H.s19,by rw [h 20 (by omega)];exact H.s20⟩
def AX1 (l:List En) (n:Int) (xs:List Int) (m:Int) (E:List Edge2) (σ:St):Prop:=FXd l n xs m E σ ∧ σ.sl 22=.c (.cap 1 8 []) ∧ σ.sl 23=.c (.v (.int .i64 (usesR l n).2))
def AX2 (l:List En) (n:Int) (xs:List Int) (m:Int) (E:List Edge2) (σ:St):Prop:=FXd l n xs m E σ ∧ O5 (usesR l n).1 (σ.sl 22) ∧ σ.sl 23=.c (.v (.int .i64 (usesR l n).2))
def AX4 (l:List En) (n:Int) (xs:List Int) (m:Int) (E:List Edge2) (σ:St):Prop:=AX2 l n xs m E σ ∧ O5 (needsR l xs).1 (σ.sl 24) ∧ σ.sl 25=.c (.v (.int .i64 (needsR l xs).2))
def AX5 (l:List En) (n:Int) (xs:List Int) (m:Int) (E:List Edge2) (σ:St):Prop:=AX4 l n xs m E σ ∧ σ.sl 27=.c (.cap 1 8 []) ∧ σ.sl 28=.c (.v (.int .i64 (if m < 0 ∨ 200 < m then 1 else 0)))
def AX6 (l:List En) (n:Int) (xs:List Int) (m:Int) (E:List Edge2) (σ:St):Prop:=AX4 l n xs m E σ ∧ O5 (ord m E).1 (σ.sl 27) ∧ σ.sl 28=.c (.v (.int .i64 (ord m E).2))
theorem AX2.mono {l:List En} {n:Int} {xs:List Int} {m:Int} {E:List Edge2} {σ σ':St} (H:AX2 l n xs m E σ) (h:Kps 24 σ σ'):AX2 l n xs m E σ':=
 ⟨H.1.mono fun s hs=>h s (by omega),by rw [h 22 (by omega)];exact H.2.1,by rw [h 23 (by omega)];exact H.2.2⟩
theorem AX4.mono {l:List En} {n:Int} {xs:List Int} {m:Int} {E:List Edge2} {σ σ':St} (H:AX4 l n xs m E σ) (h:Kps 26 σ σ'):AX4 l n xs m E σ':=
 ⟨H.1.mono fun s hs=>h s (by omega),by rw [h 24 (by omega)];exact H.2.1,by rw [h 25 (by omega)];exact H.2.2⟩
theorem fn1008 (l:List En) (n:Int) (xs:List Int) (m:Int) (E:List Edge2) (hO:∀ e,e ∈ l → e.Ok):Fn Tryz.prog 8 [ens l,ib n,is xs,ib m,eds E] (bb true):=by
 refine fn_of (base:=1008000) ok1008 rfl fun σ h0 hr=>?_
 have s0:σ.sl 0=.c (.sl 12 160 (l.map En.cells)):=h0 0
 have s1:σ.sl 1=.c (.v (.int .i64 n)):=h0 1
 have s2:σ.sl 2=.c (.sl 1 8 (ic xs)):=h0 2
 have s3:σ.sl 3=.c (.v (.int .i64 m)):=h0 3
 have s4:σ.sl 4=.c (.sl 2 16 (ecs E)):=h0 4
 clear h0 hr
 unfold c1008
 simp [s0,s1]
 refine ECall.fn (fn1016 l) (by simp [ens]) (by simp) rfl fun hx=>?_
 clear hx
 cases hh:heavyEnv l with
 | true=>simp [bb,s2,s4,r1008]
 | false=>
  by_cases c1:60 < xs.length
  ·have c1':(60:Int) < xs.length:=by omega
   simp [bb,s2,s4,c1',r1008]
  by_cases c2:300 < E.length
  ·have c1':¬ (60:Int) < xs.length:=by omega
   have c2':(300:Int) < E.length:=by omega
   simp [bb,s2,s4,c1',c2',r1008]
  have c1':¬ (60:Int) < xs.length:=by omega
  have c2':¬ (300:Int) < E.length:=by omega
  simp [bb,s0,s2,s4,c1',c2']
  refine ECall.fn (fn1019 l) (by simp [ens]) (by simp) rfl fun hx=>?_
  clear hx
  simp [ens,s2]
  refine ECall.fn (fn1020 xs) (by simp [is,ic]) (by simp) rfl fun hx=>?_
  clear hx
  simp [is,ic,s4]
  refine ⟨by simp [room];omega,?_⟩
  simp [s0,s1]
  refine ECall.fn (fn1021 l hO n) (by simp [ens,ib]) (by simp) rfl fun hx=>?_
  clear hx
  simp [is,ib]
  refine ECall.fn (fn1017g l hO xs (by omega)) (by simp [ens,is,ic]) (by simp) rfl fun hx=>?_
  clear hx
  simp [is,ib,s3]
  refine ECall.fn (zn12 m E) (by simp [toD2,toD1,toD,eds,ib]) (by simp) rfl fun hx=>?_
  clear hx
  simp [ordAV,is,ib,s0]
  refine ECall.fn (fn1022g l hO) (by simp [ens]) (by simp) rfl fun hx=>?_
  clear hx
  simp [ib,s0]
  refine ECall.fn (fn1023s l) (by simp [ens]) (by simp) rfl fun hx=>?_
  clear hx
  simp [bb,s2]
  refine GCall.fn (fun _=>fn59 xs xs) (by simp [is,ic]) (by simp) rfl fun hx=>?_
  clear hx
  simp [bb,-W_block]
  rw [W_block]
  refine loop1008a E (by omega) (by simp [s4]) (by simp) (by simp) (by simp) fun σ1 hk=>?_
  have H:FXd l n xs m E σ1:=by
   constructor
   ·rw [hk 0 (by omega)];simp [s0]
   ·rw [hk 1 (by omega)];simp [s1]
   ·rw [hk 2 (by omega)];simp [s2]
   ·rw [hk 3 (by omega)];simp [s3]
   ·rw [hk 4 (by omega)];simp [s4]
   all_goals rw [hk _ (by omega)];simp [is,ib]
  clear hk s0 s1 s2 s3 s4 σ
  have s20:=H.s20
  simp only [ib] at s20
  simp [s20,-W_seq]
  rw [W_seq]
  simp [s20,-W_seq]
  rw [W_seq]
  refine W_cut (AX1 l n xs m E) ?_ ?_
  ·have hm:∀ {σ':St},Kps 21 σ1 σ' → FXd l n xs m E σ':=fun h=>H.mono h
   have s0:=H.s0
   have s1:=H.s1
   rcases uses_cases l n with ⟨hc,hU⟩ | ⟨hc,hU',hU⟩ | ⟨hc,h1,h2,e,he,hU⟩
   ·simp [hc,s0,s1]
    exact ⟨hm fun s hs=>by simp (disch:=omega) only [set_ne],by simp,by simp [hU]⟩
   ·by_cases h1:n < 0
    ·simp [hc,s0,s1,h1]
     exact ⟨hm fun s hs=>by simp (disch:=omega) only [set_ne],by simp,by simp [hU]⟩
    ·have h2:(l.length:Int) ≤ n:=hU'.resolve_left h1
     simp [hc,s0,s1,h1,h2]
     exact ⟨hm fun s hs=>by simp (disch:=omega) only [set_ne],by simp,by simp [hU]⟩
   ·simp [hc,s0,s1,h1,h2]
    exact ⟨hm fun s hs=>by simp (disch:=omega) only [set_ne],by simp,by simp [hU,hc]⟩
  clear s20 H
  rintro σ2 ⟨H,s22,s23⟩
  clear σ1
  simp [-W_seq]
  rw [W_seq]
  refine W_cut (AX2 l n xs m E) ?_ ?_
  ·have hm:∀ {σ':St},Kps 21 σ2 σ' → FXd l n xs m E σ':=fun h=>H.mono h
   have s0:=H.s0
   have s1:=H.s1
   rcases uses_cases l n with ⟨hc,hU⟩ | ⟨hc,hU',hU⟩ | ⟨hc,h1,h2,e,he,hU⟩
   ·rw [hU] at s23
    simp [s23,hc]
    exact ⟨hm fun s hs=>by simp (disch:=omega) only [set_ne],.inr ⟨by simp [s22],by simp [hU]⟩,by simp [s23,hU]⟩
   ·rw [hU] at s23
    simp [s23]
    exact ⟨hm fun s hs=>by simp (disch:=omega) only [set_ne],.inr ⟨by simp [s22],by simp [hU]⟩,by simp [s23,hU]⟩
   ·rw [hU] at s23
    have hR:=chkR_ok hO hc
    have hcu:=fn1024 l n.toNat e he (by have:=hR.len;omega) (hO e (List.mem_of_getElem? he)) (right_base (hR.right n.toNat e he))
    rw [show ((n.toNat:Nat):Int)=n by omega] at hcu
    simp [s23,s0,s1]
    refine ECall.fn hcu (by simp [ens,ib]) (by simp) rfl fun hx=>?_
    clear hx
    simp [is]
    exact ⟨hm fun s hs=>by simp (disch:=omega) only [set_ne],.inl (by simp [hU,is]),by simp [s23,hU]⟩
  clear s22 s23 H
  rintro σ1 ⟨H,s22,s23⟩
  clear σ2
  have s20:=H.s20
  simp only [ib] at s20
  simp [s20,-W_seq]
  rw [W_seq]
  simp [s20,-W_seq]
  rw [W_seq]
  simp [-W_block]
  rw [W_block]
  refine loop1008b l (chkR l) xs (by omega) (by simp [H.s0]) (by simp [H.s2]) (by simp) (by simp) fun σ2 hk s25=>?_
  have hq:qV l.length (chkR l) xs=(needsR l xs).2:=by
   unfold qV needsR
   by_cases hc:chkR l=0
   ·cases ha:xs.any (outE l.length) <;> simp [hc]
   ·simp [hc]
  rw [hq] at s25
  have H2:AX2 l n xs m E σ2:=AX2.mono (σ:=σ1) ⟨H,s22,s23⟩ fun s hs=>by rw [hk s (by omega)];simp (disch:=omega) only [set_ne]
  have s24:σ2.sl 24=.c (.cap 1 8 []):=by rw [hk 24 (by omega)];simp
  clear hk s22 s23 H s20 σ1
  simp [-W_seq]
  rw [W_seq]
  refine W_cut (AX4 l n xs m E) ?_ ?_
  ·have hm:∀ {σ':St},Kps 24 σ2 σ' → AX2 l n xs m E σ':=fun h=>H2.mono h
   have s0:=H2.1.s0
   have s2:=H2.1.s2
   by_cases hc:chkR l=0
   ·have hR:=chkR_ok hO hc
    cases ha:xs.any (outE l.length) with
    | true=>
     have hN:needsR l xs=([],14):=by rw [needsR,if_neg (by simp [hc]),if_pos ha]
     rw [hN] at s25
     simp [s25]
     exact ⟨hm fun s hs=>by simp (disch:=omega) only [set_ne],.inr ⟨by simp [s24],by simp [hN]⟩,by simp [s25,hN]⟩
    | false=>
     have hN:=needsR_yes hc ha
     rw [hN] at s25
     have hcu:=fn1025 l hR xs (by omega) fun x hx=>by
      have:=List.any_eq_false.1 ha x hx
      simp [outE] at this
      omega
     simp [s25,s0,s2]
     refine ECall.fn hcu (by simp [ens,is,ic]) (by simp) rfl fun hx=>?_
     clear hx
     simp [is]
     exact ⟨hm fun s hs=>by simp (disch:=omega) only [set_ne],.inl (by simp [hN,is]),by simp [s25,hN]⟩
   ·have hN:needsR l xs=([],chkR l):=by rw [needsR,if_pos hc]
    rw [hN] at s25
    simp [s25,hc]
    exact ⟨hm fun s hs=>by simp (disch:=omega) only [set_ne],.inr ⟨by simp [s24],by simp [hN]⟩,by simp [s25,hN]⟩
  clear s24 s25 H2 hq
  rintro σ1 H
  clear σ2
  simp [-W_seq]
  rw [W_seq]
  simp [-W_seq]
  rw [W_seq]
  refine W_cut (AX5 l n xs m E) ?_ ?_
  ·have hm:∀ {σ':St},Kps 26 σ1 σ' → AX4 l n xs m E σ':=fun h=>H.mono h
   have s3:=H.1.1.s3
   by_cases h1:m < 0
   ·simp [s3,h1]
    exact ⟨hm fun s hs=>by simp (disch:=omega) only [set_ne],by simp,by simp [h1]⟩
   ·by_cases h2:200 < m
    ·simp [s3,h1,h2]
     exact ⟨hm fun s hs=>by simp (disch:=omega) only [set_ne],by simp,by simp [h1,h2]⟩
    ·simp [s3,h1,h2]
     exact ⟨hm fun s hs=>by simp (disch:=omega) only [set_ne],by simp,by simp [h1,h2]⟩
  clear H
  rintro σ2 ⟨H,s27,s28⟩
  clear σ1
  simp [-W_seq]
  rw [W_seq]
  simp [-W_block]
  rw [W_block]
  refine loop1008c m (if m < 0 ∨ 200 < m then 1 else 0) E (by omega) (by simp [H.1.1.s3]) (by simp [H.1.1.s4]) (by simp [s28]) (by simp) fun σ1 hk q28=>?_
  have H1:AX4 l n xs m E σ1:=H.mono fun s hs=>by rw [hk s (by omega)];simp (disch:=omega) only [set_ne]
  have q27:σ1.sl 27=.c (.cap 1 8 []):=by rw [hk 27 (by omega)];simp [s27]
  clear hk s27 s28 H σ2
  simp [-W_seq]
  rw [W_seq]
  refine W_cut (AX6 l n xs m E) ?_ ?_
  ·have hm:∀ {σ':St},Kps 26 σ1 σ' → AX4 l n xs m E σ':=fun h=>H1.mono h
   have s3:=H1.1.1.s3
   have s4:=H1.1.1.s4
   cases hw:wrongE m E with
   | true=>
    have ho:=ord_bad hw
    have hr:rV m (if m < 0 ∨ 200 < m then 1 else 0) E=1:=by
     unfold rV
     simp only [wrongE,Bool.or_eq_true,decide_eq_true_eq] at hw
     rcases hw with ((hw | hw) | hw) | hw
     ·simp [hw]
     ·simp [hw]
     ·omega
     ·simp [hw]
    rw [hr] at q28
    simp [q28]
    exact ⟨hm fun s hs=>by simp (disch:=omega) only [set_ne],.inr ⟨by simp [q27],by simp [ho]⟩,by simp [q28,ho]⟩
   | false=>
    have ho:=ord_eq hw
    have hw2:=hw
    simp only [wrongE,Bool.or_eq_false_iff,decide_eq_false_iff_not] at hw2
    have hr:rV m (if m < 0 ∨ 200 < m then 1 else 0) E=0:=by
     unfold rV
     rw [hw2.2,if_neg (by simp),if_neg (by omega)]
    rw [hr] at q28
    obtain ⟨k,rfl⟩:=Int.eq_ofNat_of_zero_le (a:=m) (by omega)
    have hb:∀ p,p ∈ E → badE k p=false:=fun p hp=>by
     have:=List.any_eq_false.1 hw2.2 p hp
     simpa using this
    have hcu:=fn1026 k E (by omega) (by omega) hb
    simp only [Int.toNat_natCast] at ho
    simp [q28,s3,s4]
    refine ECall.fn hcu (by simp [ib,eds]) (by simp) rfl fun hx=>?_
    clear hx
    by_cases hl:(gr k E).length < k
    ·rw [if_pos hl] at ho
     simp [ordP,hl,is,bb]
     exact ⟨hm fun s hs=>by simp (disch:=omega) only [set_ne],.inl (by simp [ho,is]),by simp [ho]⟩
    ·rw [if_neg hl] at ho
     simp [ordP,hl,is,bb]
     exact ⟨hm fun s hs=>by simp (disch:=omega) only [set_ne],.inl (by simp [ho,is]),by simp [ho,q28]⟩
  clear q27 q28 H1
  rintro σ2 ⟨⟨⟨H,s22,s23⟩,s24,s25⟩,s27,s28⟩
  clear σ1
  obtain ⟨s0,s1,s2,s3,s4,s14,s15,s16,s17,s18,s19,s20⟩:=H
  generalize usesR l n=u at *
  generalize needsR l xs=v at *
  generalize ord m E=o at *
  clear s0 s1 s2 s3 s4 s20
  have h1013:=fn1013
  simp only [is,ib] at s14 s15 s16 s17 s18 s19
  rcases s22 with s22 | ⟨s22,e22⟩ <;> rcases s24 with s24 | ⟨s24,e24⟩ <;> rcases s27 with s27 | ⟨s27,e27⟩ <;>
  ·try simp only [is] at s22 s24 s27
   simp [s14,s15,s22,s23]
   refine GCall.fn (fun _=>fn59 u.1 u.1) (by simp [is, *]) (by simp) rfl fun hx=>?_
   clear hx
   simp [bb,s16,s17,s24,s25]
   refine GCall.fn (fun _=>fn59 v.1 v.1) (by simp [is, *]) (by simp) rfl fun hx=>?_
   clear hx
   simp [bb,s18,s19,s27,s28]
   refine GCall.fn (fun _=>fn59 o.1 o.1) (by simp [is, *]) (by simp) rfl fun hx=>?_
   clear hx
   simp [bb]
   refine GCall.fn (fun _=>h1013) (by simp) (by simp) rfl fun hx=>?_
   clear hx
   simp [bb,r1008]
end Go.Abs
