/- THIS TEXT TELLS SOME FUNCTIONS OF THE PROGRAM IN THE CALCULUS, PROVES BY THE KERNEL THAT WHAT IS TOLD IS THE LOADED CODE, AND PROVES WHAT THEY COMPUTE: for every argument that is told; the conditions stand in each theorem. -/
import Derived.KernelRfl
import Derived.Test.YtfgjannlepahgaaGreatProg
import Derived.Test.YtfgjannlepahgaaGreatDeM1
set_option linter.unusedVariables false
set_option linter.unusedSimpArgs false
namespace Go.Abs
open Go.Proofs
structure PL where
 b:B
 base:Int
 args:List A
 more:Nat
def PL.cells (p:PL):List Cell:=[.sl 6 80 (p.b.sorts.map S.cells),.sl 6 96 (p.b.cons.map K.cells),.v (.int .i64 p.b.elim),.v (.int .i64 p.base),.sl 7 104 (p.args.map A.cells),.v (.int .i64 p.more)]
def plm (p:PL):AV:=.agg p.cells
def PL.inn (p:PL) (n:Nat):PL:={ p with more:=p.more + n }
theorem fn1161 (p:PL) (n:Nat) (h:p.more + n ≤ 1000000000):Fn Tryz.prog 161 [plm p,ib n] (plm (p.inn n)):=by
 refine fn_of (base:=1161000) ok1161 rfl fun σ h0 hr=>?_
 have s0:σ.sl 0=plm p:=h0 0
 have s1:σ.sl 1=.c (.v (.int .i64 n)):=h0 1
 simp only [plm,PL.cells] at s0
 clear h0 hr
 have w1:IntKind.wrap .i64 ((p.more:Int) + n)=((p.more + n:Nat):Int):=by rw [wrap_id (by omega) (by omega)];omega
 unfold c1161
 simp [s0,s1,w1,-Int.natCast_add]
 simp [r1161,plm,PL.cells,PL.inn]
def PL.guarded (p:PL) (t:T):Int × Bool:=
 if t.kind=1 ∧ (p.more:Int) ≤ t.val ∧ t.val - p.more < p.args.length then ((p.args.length:Int) - 1 - (t.val - p.more),match p.args[((p.args.length:Int) - 1 - (t.val - p.more)).toNat]? with | some a=>a.rc | none=>false)
 else (0,false)
theorem real_pl {p:PL} (h:Real (plm p)):p.args.length * 104 ≤ 140737488355328:=by
 have:=real_cell h (show .sl 7 104 (p.args.map A.cells) ∈ p.cells by simp [PL.cells]);simpa [room] using this
theorem fn1162 (p:PL) (t:T) (hm:p.more ≤ 1000000000) (hw:t.wf=true):Fn Tryz.prog 162 [plm p,tm t] (.tup [ib (p.guarded t).1,bb (p.guarded t).2]):=by
 refine fn_of (base:=1162000) ok1162 rfl fun σ h0 hr=>?_
 have s0:σ.sl 0=plm p:=h0 0
 have s1:σ.sl 1=tm t:=h0 1
 have hl:=real_pl (hr (plm p) (by simp))
 obtain ⟨k,n,ts⟩:=t
 simp only [plm,PL.cells] at s0
 simp only [tm,cells_mk] at s1
 clear h0 hr
 have hn:-9223372036854775808 ≤ n ∧ n < 9223372036854775808:=by
  simp only [T.wf,Bool.and_eq_true] at hw
  exact of_decide_eq_true hw.1
 have w0:IntKind.wrap .i64 ((p.args.length:Int) - 1)=(p.args.length:Int) - 1:=wrap_id (by omega) (by omega)
 unfold c1162
 by_cases c1:k=1
 ·by_cases c2:n < (p.more:Int)
  ·simp [s0,s1,c1,c2,r1162,PL.guarded,T.kind,T.val,show ¬ (p.more:Int) ≤ n by omega,ib,bb]
  ·have w1:IntKind.wrap .i64 (n - (p.more:Int))=n - p.more:=wrap_id (by omega) (by omega)
   have w2:IntKind.wrap .i64 ((p.args.length:Int) - 1 - (n - p.more))=(p.args.length:Int) - 1 - (n - p.more):=wrap_id (by omega) (by omega)
   by_cases c3:(p.args.length:Int) - 1 - (n - p.more) < 0
   ·have c3':¬ (n - (p.more:Int) < p.args.length):=by omega
    simp [s0,s1,c1,c2,w0,w1,w2,c3,r1162,PL.guarded,T.kind,T.val,show (p.more:Int) ≤ n by omega,c3',ib,bb]
   ·obtain ⟨j,hj⟩:=Int.eq_ofNat_of_zero_le (a:=(p.args.length:Int) - 1 - (n - p.more)) (by omega)
    obtain ⟨a,ha⟩:=at_of (ts:=p.args) (i:=j) (by omega)
    obtain ⟨hjl,ha2⟩:=getE ha
    have hk:(T.mk k n ts).kind=1:=c1
    have hv:(T.mk k n ts).val=n:=rfl
    have hg:p.guarded (.mk k n ts)=((j:Int),a.rc):=by
     unfold PL.guarded
     rw [if_pos ⟨hk,by rw [hv];omega,by rw [hv];omega⟩]
     simp only [hv]
     rw [hj]
     simp [ha]
    rw [hg]
    have w2':IntKind.wrap .i64 ((p.args.length:Int) - 1 - (n - (p.more:Int)))=(j:Int):=by rw [hj] at w2 ⊢;exact w2
    have hj0:¬ (j:Int) < 0:=by omega
    simp [s0,s1,c1,c2,w0,w1,w2',hj0]
    refine W_dregA ?_
    simp [hjl,ha2,A.cells]
    refine realC_n ?_
    simp [r1162,ib,bb]
 ·simp [s0,s1,c1,r1162,PL.guarded,T.kind,T.val,ib,bb]
theorem guarded_lt {p:PL} {t:T} (h:(p.guarded t).2=true):∃ (j:Nat) (a:A),(p.guarded t).1=j ∧ p.args[j]? = some a ∧ a.rc=true:=by
 unfold PL.guarded at h ⊢
 split at h
 ·rename_i hc
  rw [if_pos hc]
  refine ⟨((p.args.length:Int) - 1 - (t.val - p.more)).toNat,?_⟩
  cases e:p.args[((p.args.length:Int) - 1 - (t.val - p.more)).toNat]? with
  | none=>simp [e] at h
  | some a=>simp [e] at h;exact ⟨a,by simp;omega,rfl,h⟩
 ·cases h
def findK (f:Int → Int) (n:Int) (m:Nat):Option Nat:=(List.range m).find? fun k=>decide (f k=n)
def B.ofK (b:B) (base n:Int):Int × Int:=
 if base < 0 ∨ 65535 < base ∨ n < base ∨ (b.count:Int) ≤ n - base then (0,0) else
 match findK (b.former base) n b.sorts.length with
 | some k=>(3,k)
 | none=>match findK (b.decoder base) n b.sorts.length with
  | some k=>(4,k)
  | none=>match findK (b.constr base) n b.cons.length with
   | some k=>(5,k)
   | none=>match findK (b.elimn base) n b.sorts.length with
    | some k=>(6,k)
    | none=>(0,0)
theorem find_none {f:Int → Int} {n:Int} {i:Nat} (h:∀ k:Nat,k < i → f k ≠ n):findK f n i=none:=by
 rw [findK,List.find?_eq_none]
 intro k hk
 simpa using h k (List.mem_range.1 hk)
theorem find_some {f:Int → Int} {n:Int} {i m:Nat} (hi:i < m) (h:∀ k:Nat,k < i → f k ≠ n) (hn:f i=n):findK f n m=some i:=by
 rw [findK,List.find?_eq_some_iff_append]
 refine ⟨by simp [hn],List.range i,(List.range' (i + 1) (m - i - 1)),?_,fun j hj=>?_⟩
 ·have h1:m=i + (1 + (m - i - 1)):=by omega
  conv=>lhs;rw [h1]
  rw [List.range_eq_range',← List.range'_append_1,List.range_eq_range',Nat.zero_add,Nat.add_comm 1,List.range'_succ]
 ·simpa using h j (List.mem_range.1 hj)
theorem findK_lt {f:Int → Int} {n:Int} {m k:Nat} (h:findK f n m=some k):k < m ∧ f k=n:=by
 have h1:=List.mem_of_find?_eq_some h
 have h2:=List.find?_some h
 exact ⟨List.mem_range.1 h1,by simpa using h2⟩
theorem loopOf {σ:St} {Q:SEx → St → Prop} (b:B) (base n:Int) (fn:Nat) (kd:Int) (m:Nat) (hm:m ≤ 1000000000000000) (f:Int → Int) (hf:∀ k:Int,Fn Tryz.prog fn [bm b,ib base,ib k] (ib (f k)))
  (s1:σ.sl 1=.c (.v (.int .i64 base))) (s2:σ.sl 2=.c (.v (.int .i64 n))) (s3:σ.sl 3=.c (.ref 1163003 (σ.tg 1163003) 0)) (o3:σ.ob 1163003=some (.box 68 b.cells)) (s9:σ.sl 9=.c (.ref 1163009 (σ.tg 1163009) 0))
  (o9:σ.ob 1163009=some (.box 189 [.v (.int .i64 kd),.v (.int .i64 m),.v (.func (.func fn) #[] #[])])) (s53:σ.sl 53=.c (.v (.int .i64 m))) (s54:σ.sl 54=.c (.v (.int .i64 (0:Nat))))
  (E:St → Prop) (hE:∀ σ σ',E σ → (∀ k,k ≠ 10 → k < 54 → σ'.sl k=σ.sl k) → (∀ k,σ'.ob k=σ.ob k ∧ σ'.tg k=σ.tg k) → E σ') (he:E σ)
  (hR:∀ σ' k,findK f n m=some k → σ'.sl 6=ib kd → σ'.sl 7=ib (k:Nat) → Q .ret σ') (hQ:∀ σ',findK f n m=none → E σ' → Q .normal σ'):W Tryz.prog 1163000 (.loop c1163b0) σ (onBlock 2 Q):=by
 refine W_loop (fun r σ=>∃ i:Nat,i + r=m ∧ (∀ k:Nat,k < i → f k ≠ n) ∧ E σ ∧ σ.sl 1=.c (.v (.int .i64 base)) ∧ σ.sl 2=.c (.v (.int .i64 n)) ∧ σ.sl 3=.c (.ref 1163003 (σ.tg 1163003) 0) ∧ σ.ob 1163003=some (.box 68 b.cells) ∧ σ.sl 9=.c (.ref 1163009 (σ.tg 1163009) 0) ∧ σ.ob 1163009=some (.box 189 [.v (.int .i64 kd),.v (.int .i64 m),.v (.func (.func fn) #[] #[])]) ∧ σ.sl 53=.c (.v (.int .i64 m)) ∧ σ.sl 54=.c (.v (.int .i64 i))) m ⟨0,by simp,by simp,he,s1,s2,s3,o3,s9,o9,s53,s54⟩ ?_
 clear s1 s2 s3 o3 s9 o9 s53 s54 he σ
 rintro r σ ⟨i,hr,hno,he,s1,s2,s3,o3,s9,o9,s53,s54⟩
 unfold c1163b0
 by_cases hi:i < m
 ·have w1:=wrap_succ (i:=i) (by omega)
  simp [s1,s2,s3,o3,s9,o9,s53,s54,hi,B.cells]
  refine ECall.fn (hf i) (by simp [bm,ib,B.cells]) (by simp) rfl fun _=>?_
  by_cases hfi:f i=n
  ·simp [ib,s1,s2,s3,o3,s9,o9,hfi]
   exact hR _ i (find_some hi hno hfi) (by simp [ib]) (by simp [ib])
  ·simp [ib,s1,s2,s3,o3,s9,o9,s53,s54,hfi,w1]
   refine ⟨r - 1,by omega,i + 1,by omega,?_,?_,by simp [o3,B.cells],by simp [o9]⟩
   ·intro k hk
    by_cases e:k=i
    ·subst e;exact hfi
    ·exact hno k (by omega)
   ·exact hE _ _ he (fun k h1 h2=>by simp [h1,show k ≠ 54 by omega,show k ≠ 55 by omega,show k ≠ 56 by omega,show k ≠ 57 by omega,show k ≠ 58 by omega,show k ≠ 59 by omega,show k ≠ 60 by omega,show k ≠ 61 by omega,show k ≠ 62 by omega,show k ≠ 63 by omega,show k ≠ 64 by omega,show k ≠ 65 by omega,show k ≠ 66 by omega,show k ≠ 67 by omega,show k ≠ 68 by omega]) fun k=>by simp
 ·have:i=m:=by omega
  subst this
  simp [s1,s2,s3,o3,s9,o9,s53,s54]
  exact hQ _ (find_none hno) (hE _ _ he (fun k h1 h2=>by simp [h1,show k ≠ 54 by omega,show k ≠ 55 by omega,show k ≠ 56 by omega,show k ≠ 57 by omega,show k ≠ 58 by omega,show k ≠ 59 by omega,show k ≠ 60 by omega,show k ≠ 61 by omega,show k ≠ 62 by omega,show k ≠ 63 by omega,show k ≠ 64 by omega,show k ≠ 65 by omega,show k ≠ 66 by omega,show k ≠ 67 by omega,show k ≠ 68 by omega]) fun k=>by simp)
structure FO (b:B) (base n:Int) (σ:St):Prop where
 s1:σ.sl 1=.c (.v (.int .i64 base))
 s2:σ.sl 2=.c (.v (.int .i64 n))
 s3:σ.sl 3=.c (.ref 1163003 (σ.tg 1163003) 0)
 o3:σ.ob 1163003=some (.box 68 b.cells)
 s46:σ.sl 46=.c (.cap 3 24 [[.v (.int .i64 3),.v (.int .i64 b.sorts.length),.v (.func (.func 114) #[] #[])],[.v (.int .i64 4),.v (.int .i64 b.sorts.length),.v (.func (.func 115) #[] #[])],[.v (.int .i64 5),.v (.int .i64 b.cons.length),.v (.func (.func 116) #[] #[])],[.v (.int .i64 6),.v (.int .i64 b.sorts.length),.v (.func (.func 117) #[] #[])]])
 s47:σ.sl 47=.c (.v (.int .i64 4))
theorem FO.mono {b:B} {base n:Int} {σ σ':St} (h:FO b base n σ) (hs:∀ k,k ≠ 10 → k < 54 → σ'.sl k=σ.sl k) (ho:∀ k,σ'.ob k=σ.ob k ∧ σ'.tg k=σ.tg k):FO b base n σ':=
 ⟨by rw [hs 1 (by decide) (by decide)];exact h.s1,by rw [hs 2 (by decide) (by decide)];exact h.s2,by rw [hs 3 (by decide) (by decide),(ho _).2];exact h.s3,by rw [(ho _).1];exact h.o3,by rw [hs 46 (by decide) (by decide)];exact h.s46,by rw [hs 47 (by decide) (by decide)];exact h.s47⟩
theorem loopOf2 {σ:St} {Q:SEx → St → Prop} (b:B) (base n:Int) (hl1:b.sorts.length * 80 ≤ 140737488355328) (hl2:b.cons.length * 96 ≤ 140737488355328) (H:FO b base n σ) (s48:σ.sl 48=.c (.v (.int .i64 (0:Nat)))) (res:Int × Int)
  (ho:res=match findK (b.former base) n b.sorts.length with
      | some k=>((3:Int),(k:Int))
      | none=>match findK (b.decoder base) n b.sorts.length with
       | some k=>(4,k)
       | none=>match findK (b.constr base) n b.cons.length with
        | some k=>(5,k)
        | none=>match findK (b.elimn base) n b.sorts.length with
         | some k=>(6,k)
         | none=>(0,0))
  (hR:∀ σ',σ'.sl 6=ib res.1 → σ'.sl 7=ib res.2 → Q .ret σ') (hQ:∀ σ',res=(0,0) → Q .normal σ'):W Tryz.prog 1163000 (.loop c1163b1) σ (onBlock 0 Q):=by
 refine W_loop (fun m σ=>∃ j:Nat,j + m=4 ∧ FO b base n σ ∧ σ.sl 48=.c (.v (.int .i64 j)) ∧ (1 ≤ j → findK (b.former base) n b.sorts.length=none) ∧ (2 ≤ j → findK (b.decoder base) n b.sorts.length=none) ∧ (3 ≤ j → findK (b.constr base) n b.cons.length=none) ∧ (4 ≤ j → findK (b.elimn base) n b.sorts.length=none)) 4 ⟨0,by simp,H,s48,by simp,by simp,by simp,by simp⟩ ?_
 clear H s48 σ
 rintro m σ ⟨j,hm,H,s48,n1,n2,n3,n4⟩
 have H0:=H
 obtain ⟨s1,s2,s3,o3,s46,s47⟩:=H
 unfold c1163b1
 match j,hm with
 | 0,hm=>
  simp [s46,s47,s48]
  refine loopOf b base n 114 3 b.sorts.length (by omega) (b.former base) (fun k=>fn1114 b base k) (by simp [s1]) (by simp [s2]) (by simp [s3]) (by simp [o3]) (by simp) (by simp) (by simp) (by simp) (fun σ=>FO b base n σ ∧ σ.sl 48=.c (.v (.int .i64 (0:Nat)))) (fun σ σ' h h1 h2=>⟨h.1.mono h1 h2,by rw [h1 48 (by decide) (by decide)];exact h.2⟩) ⟨⟨by simp [s1],by simp [s2],by simp [s3],by simp [o3],by simp [s46],by simp [s47]⟩,by simp [s48]⟩ (fun σ' k hk q6 q7=>?_) fun σ' hk hE=>?_
  ·have:res=(3,(k:Int)):=by rw [ho,hk]
   simp
   exact hR _ (by rw [this];exact q6) (by rw [this];exact q7)
  ·obtain ⟨hF,q48⟩:=hE
   have w1:IntKind.wrap .i64 ((0:Int) + 1)=((0 + 1:Nat):Int):=by decide
   simp [q48]
   exact ⟨m - 1,by omega,0 + 1,by omega,⟨by simp [hF.s1],by simp [hF.s2],by simp [hF.s3],by simp [hF.o3],by simp [hF.s46],by simp [hF.s47]⟩,by simpa using w1,fun _=>hk,fun h=>by omega,fun h=>by omega,fun h=>by omega⟩
 | 1,hm=>
  simp [s46,s47,s48]
  refine loopOf b base n 115 4 b.sorts.length (by omega) (b.decoder base) (fun k=>fn1115 b base k) (by simp [s1]) (by simp [s2]) (by simp [s3]) (by simp [o3]) (by simp) (by simp) (by simp) (by simp) (fun σ=>FO b base n σ ∧ σ.sl 48=.c (.v (.int .i64 (1:Nat)))) (fun σ σ' h h1 h2=>⟨h.1.mono h1 h2,by rw [h1 48 (by decide) (by decide)];exact h.2⟩) ⟨⟨by simp [s1],by simp [s2],by simp [s3],by simp [o3],by simp [s46],by simp [s47]⟩,by simp [s48]⟩ (fun σ' k hk q6 q7=>?_) fun σ' hk hE=>?_
  ·have:res=(4,(k:Int)):=by rw [ho,n1 (by omega),hk]
   simp
   exact hR _ (by rw [this];exact q6) (by rw [this];exact q7)
  ·obtain ⟨hF,q48⟩:=hE
   have w1:IntKind.wrap .i64 ((1:Int) + 1)=((1 + 1:Nat):Int):=by decide
   simp [q48]
   exact ⟨m - 1,by omega,1 + 1,by omega,⟨by simp [hF.s1],by simp [hF.s2],by simp [hF.s3],by simp [hF.o3],by simp [hF.s46],by simp [hF.s47]⟩,by simpa using w1,fun _=>n1 (by omega),fun _=>hk,fun h=>by omega,fun h=>by omega⟩
 | 2,hm=>
  simp [s46,s47,s48]
  refine loopOf b base n 116 5 b.cons.length (by omega) (b.constr base) (fun k=>fn1116 b base k) (by simp [s1]) (by simp [s2]) (by simp [s3]) (by simp [o3]) (by simp) (by simp) (by simp) (by simp) (fun σ=>FO b base n σ ∧ σ.sl 48=.c (.v (.int .i64 (2:Nat)))) (fun σ σ' h h1 h2=>⟨h.1.mono h1 h2,by rw [h1 48 (by decide) (by decide)];exact h.2⟩) ⟨⟨by simp [s1],by simp [s2],by simp [s3],by simp [o3],by simp [s46],by simp [s47]⟩,by simp [s48]⟩ (fun σ' k hk q6 q7=>?_) fun σ' hk hE=>?_
  ·have:res=(5,(k:Int)):=by rw [ho,n1 (by omega),n2 (by omega),hk]
   simp
   exact hR _ (by rw [this];exact q6) (by rw [this];exact q7)
  ·obtain ⟨hF,q48⟩:=hE
   have w1:IntKind.wrap .i64 ((2:Int) + 1)=((2 + 1:Nat):Int):=by decide
   simp [q48]
   exact ⟨m - 1,by omega,2 + 1,by omega,⟨by simp [hF.s1],by simp [hF.s2],by simp [hF.s3],by simp [hF.o3],by simp [hF.s46],by simp [hF.s47]⟩,by simpa using w1,fun _=>n1 (by omega),fun _=>n2 (by omega),fun _=>hk,fun h=>by omega⟩
 | 3,hm=>
  simp [s46,s47,s48]
  refine loopOf b base n 117 6 b.sorts.length (by omega) (b.elimn base) (fun k=>fn1117 b base k) (by simp [s1]) (by simp [s2]) (by simp [s3]) (by simp [o3]) (by simp) (by simp) (by simp) (by simp) (fun σ=>FO b base n σ ∧ σ.sl 48=.c (.v (.int .i64 (3:Nat)))) (fun σ σ' h h1 h2=>⟨h.1.mono h1 h2,by rw [h1 48 (by decide) (by decide)];exact h.2⟩) ⟨⟨by simp [s1],by simp [s2],by simp [s3],by simp [o3],by simp [s46],by simp [s47]⟩,by simp [s48]⟩ (fun σ' k hk q6 q7=>?_) fun σ' hk hE=>?_
  ·have:res=(6,(k:Int)):=by rw [ho,n1 (by omega),n2 (by omega),n3 (by omega),hk]
   simp
   exact hR _ (by rw [this];exact q6) (by rw [this];exact q7)
  ·obtain ⟨hF,q48⟩:=hE
   have w1:IntKind.wrap .i64 ((3:Int) + 1)=((3 + 1:Nat):Int):=by decide
   simp [q48]
   exact ⟨m - 1,by omega,3 + 1,by omega,⟨by simp [hF.s1],by simp [hF.s2],by simp [hF.s3],by simp [hF.o3],by simp [hF.s46],by simp [hF.s47]⟩,by simpa using w1,fun _=>n1 (by omega),fun _=>n2 (by omega),fun _=>n3 (by omega),fun _=>hk⟩
 | 4,hm=>
  simp [s46,s47,s48]
  refine hQ _ ?_
  rw [ho,n1 (by omega),n2 (by omega),n3 (by omega),n4 (by omega)]
 | j + 5,hm=>omega
theorem fn1163 (b:B) (base n:Int) (hn:okI n):Fn Tryz.prog 163 [bm b,ib base,ib n] (.tup [ib (b.ofK base n).1,ib (b.ofK base n).2]):=by
 refine fn_of (base:=1163000) ok1163 rfl fun σ h0 hr=>?_
 have s0:σ.sl 0=bm b:=h0 0
 have s1:σ.sl 1=.c (.v (.int .i64 base)):=h0 1
 have s2:σ.sl 2=.c (.v (.int .i64 n)):=h0 2
 have hl1:=real_b1 (hr (bm b) (by simp))
 have hl2:=real_b2 (hr (bm b) (by simp))
 simp only [bm,B.cells] at s0
 clear h0 hr
 obtain ⟨hn1,hn2⟩:=hn
 unfold c1163
 by_cases c1:base < 0
 ·simp [s0,s1,s2,c1]
  refine GCall.fn (fun _=>fn1094 b) (by simp [bm,B.cells]) (by simp) rfl fun _=>?_
  simp [r1163,ib,B.ofK,c1]
 ·by_cases c2:65535 < base
  ·simp [s0,s1,s2,c1,c2]
   refine GCall.fn (fun _=>fn1094 b) (by simp [bm,B.cells]) (by simp) rfl fun _=>?_
   simp [r1163,ib,B.ofK,c1,c2]
  ·by_cases c3:n < base
   ·simp [s0,s1,s2,c1,c2,c3]
    refine GCall.fn (fun _=>fn1094 b) (by simp [bm,B.cells]) (by simp) rfl fun _=>?_
    simp [r1163,ib,B.ofK,c1,c2,c3]
   ·have w1:IntKind.wrap .i64 (n - base)=n - base:=wrap_id (by omega) (by omega)
    simp [s0,s1,s2,c1,c2,c3,w1]
    refine GCall.fn (fun _=>fn1094 b) (by simp [bm,B.cells]) (by simp) rfl fun _=>?_
    by_cases c4:(b.count:Int) ≤ n - base
    ·simp [r1163,ib,B.ofK,c1,c2,c3,c4]
    ·simp [ib,c4]
     refine ⟨by simp [room],?_⟩
     have ho:b.ofK base n=match findK (b.former base) n b.sorts.length with
      | some k=>(3,k)
      | none=>match findK (b.decoder base) n b.sorts.length with
       | some k=>(4,k)
       | none=>match findK (b.constr base) n b.cons.length with
        | some k=>(5,k)
        | none=>match findK (b.elimn base) n b.sorts.length with
         | some k=>(6,k)
         | none=>(0,0):=by rw [B.ofK,if_neg (by omega)]
     refine loopOf2 b base n hl1 hl2 ⟨by simp [s1],by simp [s2],by simp,by simp [B.cells],by simp,by simp⟩ (by simp) (b.ofK base n) ho (fun σ' q6 q7=>?_) fun σ' e=>?_
     ·simp [q6,q7,r1163,ib]
     ·simp [e,r1163,ib]
end Go.Abs

namespace Go.Abs
open Go.Proofs
theorem wf_kids {k n:Int} {ts:List T} (h:(T.mk k n ts).wf=true):okI n ∧ ∀ t,t ∈ ts → t.wf=true:=by
 simp only [T.wf,Bool.and_eq_true] at h
 have h1:-9223372036854775808 ≤ n ∧ n < 9223372036854775808:=of_decide_eq_true h.1
 exact ⟨h1,fun t ht=>by have:=wfL_all ts ▸ h.2;exact List.all_eq_true.1 this t ht⟩
theorem split_facts:∀ (m:Nat) (t:T),t.count ≤ m → (t.split.1.count ≤ t.count ∧ (t.wf=true → t.split.1.wf=true) ∧ ∀ a,a ∈ t.split.2 → a.count < t.count ∧ (t.wf=true → a.wf=true))
 | 0,t,h=>by obtain ⟨k,n,ts⟩:=t;simp [T.count] at h
 | m + 1,t,h=>by
  by_cases h2:t.two 6=true
  ·obtain ⟨n,f,a,rfl⟩:=two_is h2
   have hc:(T.mk 6 n [f,a]).count=f.count + a.count + 1:=by simp [T.count,T.countL]
   have ih:=split_facts m f (by omega)
   rw [split_app]
   refine ⟨by simp only [];omega,fun hw=>ih.2.1 ((wf_kids hw).2 f (by simp)),fun x hx=>?_⟩
   rcases List.mem_append.1 hx with hx | hx
   ·have:=ih.2.2 x hx
    exact ⟨by omega,fun hw=>this.2 ((wf_kids hw).2 f (by simp))⟩
   ·simp at hx
    subst hx
    exact ⟨by omega,fun hw=>(wf_kids hw).2 x (by simp)⟩
  ·have h2':t.two 6=false:=by simpa using h2
   rw [split_no h2']
   exact ⟨Nat.le_refl _,id,by simp⟩
theorem keys_tt (t:T) (l:List T):(AV.tup [tm t,tms l]).keys2=[]:=by simp [AV.keys2,AV.keys1,tm,tms,cells_eq,keysCs,Cell.keys]
theorem sp1196 (tn:Nat) (p:PL) (t:T) (cl:T → Bool) (h:Fn Tryz.prog 123 [plm p,tm t] (bb (cl t))):Spec Tryz.prog 196 [tm t,.c (.ref 1185002 tn 0)] [(1185002,tn,.box 145 p.cells)] (bb (!cl t)) [(1185002,tn,.box 145 p.cells)]:=by
 refine spec_one (base:=1196000) ok1196 rfl fun σ h0 oK gK hr=>?_
 have s0:σ.sl 0=tm t:=h0 0
 have s1:σ.sl 1=.c (.ref 1185002 tn 0):=h0 1
 simp only [tm] at s0
 clear h0 hr
 unfold c1196
 simp [s0,s1,oK,gK,PL.cells]
 refine ECall.fn h (by simp [tm,plm,PL.cells]) (by simp) rfl fun hx=>?_
 simp [bb]
 refine EndU_one ?_ ?_ ?_ ?_ <;> simp [r1196,bb,oK,gK,PL.cells]
theorem fn1185 (p:PL) (l:List T) (cl:T → Bool) (h:∀ t,t ∈ l → Fn Tryz.prog 123 [plm p,tm t] (bb (cl t))):Fn Tryz.prog 185 [plm p,tms l] (bb (l.all cl)):=by
 refine fn_of (base:=1185000) ok1185 rfl fun σ h0 hr=>?_
 have s0:σ.sl 0=plm p:=h0 0
 have s1:σ.sl 1=tms l:=h0 1
 simp only [plm,PL.cells] at s0
 simp only [tms] at s1
 clear h0 hr
 unfold c1185
 simp [s0,s1]
 have hs:=spc112 (f:=196) (rs:=[(1185002,σ.tg 1185002 + 1)]) (l:=[(1185002,σ.tg 1185002 + 1,.box 145 p.cells)]) (NoKeys.one rfl) (p:=fun t=>!cl t) (ts:=l) fun t ht=>by simpa [refs] using sp1196 (σ.tg 1185002 + 1) p t cl (h t ht)
 refine ECall.ro (rs:=[]) (args:=[tms l,.c (.clo 196 [] [(1185002,σ.tg 1185002 + 1)])]) [(1185002,σ.tg 1185002 + 1,.box 145 p.cells)] (by simpa [refs] using hs) (by simp [tms,toD2,toD1,toD]) (by simp) rfl (Ro.one (by simp [PL.cells]) (by simp) rfl) fun _=>?_
 have e:l.all cl=!(l.any fun t=>!cl t):=by rw [List.all_eq_not_any_not]
 rw [e]
 generalize (l.any fun t=>!cl t)=r
 simp [r1185,bb]
def decG (cl:T → Bool) (p:PL) (t:T):Bool:=
 if t.split.1.kind ≠ 3 then false else
 if (p.b.ofK p.base t.split.1.val).1 ≠ 4 ∨ t.split.2.length ≠ (sIdx p.b (p.b.ofK p.base t.split.1.val).2).length + 1 then false else
 match t.split.2[t.split.2.length - 1]? with
 | some x=>(p.guarded x.split.1).2 && (t.split.2.take (t.split.2.length - 1)).all cl && x.split.2.all cl
 | none=>false
theorem ofK_dec {b:B} {base n:Int} (h:(b.ofK base n).1=4):∃ k:Nat,(b.ofK base n).2=k ∧ k < b.sorts.length:=by
 unfold B.ofK at h ⊢
 split
 ·rename_i h1;rw [if_pos h1] at h;cases h
 ·rename_i h1
  rw [if_neg h1] at h
  cases e1:findK (b.former base) n b.sorts.length with
  | some k=>rw [e1] at h;cases h
  | none=>
   rw [e1] at h
   cases e2:findK (b.decoder base) n b.sorts.length with
   | some k=>exact ⟨k,rfl,(findK_lt e2).1⟩
   | none=>
    rw [e2] at h
    simp only [] at h
    cases e3:findK (b.constr base) n b.cons.length with
    | some k=>rw [e3] at h;cases h
    | none=>
     rw [e3] at h
     cases e4:findK (b.elimn base) n b.sorts.length with
     | some k=>rw [e4] at h;cases h
     | none=>rw [e4] at h;cases h
theorem ofK_con {b:B} {base n:Int} (h:(b.ofK base n).1=5):∃ k:Nat,(b.ofK base n).2=k ∧ k < b.cons.length:=by
 unfold B.ofK at h ⊢
 split
 ·rename_i h1;rw [if_pos h1] at h;cases h
 ·rename_i h1
  rw [if_neg h1] at h
  cases e1:findK (b.former base) n b.sorts.length with
  | some k=>rw [e1] at h;cases h
  | none=>
   rw [e1] at h
   cases e2:findK (b.decoder base) n b.sorts.length with
   | some k=>rw [e2] at h;cases h
   | none=>
    rw [e2] at h
    simp only [] at h
    cases e3:findK (b.constr base) n b.cons.length with
    | some k=>exact ⟨k,rfl,(findK_lt e3).1⟩
    | none=>
     rw [e3] at h
     cases e4:findK (b.elimn base) n b.sorts.length with
     | some k=>rw [e4] at h;cases h
     | none=>rw [e4] at h;cases h
theorem wf_val {t:T} (h:t.wf=true):okI t.val:=by obtain ⟨k,n,ts⟩:=t;exact (wf_kids h).1
structure B.Fit (b:B):Prop where
 srt:∀ s,s ∈ b.sorts → s.idx.length ≤ 12
 con:∀ c,c ∈ b.cons → c.args.length ≤ 12
theorem keys_ib (a:Int) (b:Bool):(AV.tup [ib a,bb b]).keys2=[]:=by simp [AV.keys2,AV.keys1,ib,bb,Cell.keys]
theorem keys_ii (a b:Int):(AV.tup [ib a,ib b]).keys2=[]:=by simp [AV.keys2,AV.keys1,ib,Cell.keys]
theorem fn1164 (p:PL) (hb:p.b.Fit) (t:T) (cl:T → Bool) (hm:p.more ≤ 1000000000) (hc:t.count ≤ 1048576) (hw:t.wf=true) (hcl:∀ a,a.count < t.count → a.wf=true → Fn Tryz.prog 123 [plm p,tm a] (bb (cl a))):Fn Tryz.prog 164 [plm p,tm t] (bb (decG cl p t)):=by
 refine fn_of (base:=1164000) ok1164 rfl fun σ h0 hr=>?_
 have s0:σ.sl 0=plm p:=h0 0
 have s1:σ.sl 1=tm t:=h0 1
 simp only [plm,PL.cells] at s0
 rw [tm,cells_eq] at s1
 clear h0 hr
 obtain ⟨f1,f2,f3⟩:=split_facts t.count t (Nat.le_refl _)
 unfold c1164
 simp [s0,s1]
 refine ECall.fn (fn1184 t hc) (by simp [tm,cells_eq]) (by simp) (keys_tt _ _) fun _=>?_
 have hdef:decG cl p t=decG cl p t:=rfl
 conv at hdef=>rhs;unfold decG
 generalize t.split.1=f at *
 generalize t.split.2=args at *
 simp [tm,tms,cells_eq f]
 by_cases k3:f.kind=3
 ·simp [k3]
  refine ECall.fn (fn1163 p.b p.base f.val (wf_val (f2 hw))) (by simp [bm,B.cells,ib]) (by simp) rfl fun _=>?_
  generalize hok:p.b.ofK p.base f.val=kk at *
  obtain ⟨kd,kx⟩:=kk
  simp only [ib]
  by_cases k4:kd=4
  ·subst k4
   obtain ⟨k,hk1,hk2⟩:=ofK_dec (b:=p.b) (base:=p.base) (n:=f.val) (by rw [hok])
   rw [hok] at hk1
   simp only [] at hk1
   subst hk1
   obtain ⟨s,hs⟩:=at_of hk2
   obtain ⟨hkl,hs2⟩:=getE hs
   have hsx:sIdx p.b (k:Int)=s.idx:=by simp [sIdx,hs]
   have h12:=hb.srt s (List.mem_of_getElem? hs)
   generalize hmm:s.idx.length=m at *
   have w1:IntKind.wrap .i64 ((m:Int) + 1)=(m:Int) + 1:=wrap_id (by omega) (by omega)
   have w2:IntKind.wrap .i64 (m:Int)=(m:Int):=wrap_id (by omega) (by omega)
   by_cases hlen:args.length=m + 1
   ·obtain ⟨x,hx⟩:=at_of (ts:=args) (i:=m) (by omega)
    obtain ⟨hxl,hx2⟩:=getE hx
    have hxf:=f3 x (List.mem_of_getElem? hx)
    simp [hok,k3,hsx,hmm,hlen,hx2,hxl] at hdef
    simp [hkl,hs2,S.cells,hmm,w1,w2,hlen,hx2,hxl]
    refine ⟨by omega,ECall.fn (fn1184 x (by omega)) (by simp [tm]) (by simp) (keys_tt _ _) fun _=>?_⟩
    have hxs:=split_facts x.count x (Nat.le_refl _)
    generalize x.split.1=g at *
    generalize x.split.2=of at *
    simp [tm,tms,cells_eq g]
    refine ECall.fn (fn1162 p g hm (hxs.2.1 (hxf.2 hw))) (by simp [tm,plm,PL.cells,cells_eq]) (by simp) (keys_ib _ _) fun _=>?_
    simp [ib,bb]
    have hdef2:decG cl p t=((p.guarded g).2 && (args.take m).all cl && of.all cl):=by rw [hdef]
    clear hdef
    have hc1:=fn1185 p (args.take m) cl fun a ha=>hcl a (f3 a (List.mem_of_mem_take ha)).1 ((f3 a (List.mem_of_mem_take ha)).2 hw)
    have hc2:=fn1185 p of cl fun a ha=>hcl a (by have:=(hxs.2.2 a ha).1;omega) ((hxs.2.2 a ha).2 (hxf.2 hw))
    refine W_dregA ?_
    rw [hdef2]
    generalize (args.take m).all cl=z1 at *
    generalize of.all cl=z2 at *
    cases hg:(p.guarded g).2 with
    | false=>
     simp [hlen]
     refine GCallA.fn (fun _=>hc1) (by simp [plm,PL.cells,tms,List.map_take]) (by simp) rfl ?_
     simp [bb]
     refine GCallA.fn (fun _=>hc2) (by simp [plm,PL.cells,tms]) (by simp) rfl ?_
     simp [bb]
     refine realC_n ?_
     simp [r1164,bb]
    | true=>
     simp [hlen]
     refine ⟨⟨by simp [room];omega,by omega⟩,?_⟩
     refine GCallA.fn (fun _=>hc1) (by simp [plm,PL.cells,tms,List.map_take]) (by simp) rfl ?_
     simp [bb]
     refine GCallA.fn (fun _=>hc2) (by simp [plm,PL.cells,tms]) (by simp) rfl ?_
     simp [bb]
     refine realC_n ?_
     simp [r1164,bb]
   ·have hlen2:¬ ((args.length:Int)=(m:Int) + 1):=by omega
    have hdf:decG cl p t=false:=by rw [hdef];simp [k3,hok,hsx,hmm,hlen]
    simp [hkl,hs2,S.cells,hmm,w1,hlen2,r1164,bb,hdf]
  ·have hdf:decG cl p t=false:=by rw [hdef];simp [k3,hok,k4]
   cases hx:p.b.sorts[kx.toNat]? with
   | none=>simp [k4,hx,r1164,bb,hdf]
   | some s=>simp [k4,hx,S.cells,r1164,bb,hdf]
 ·simp [k3,r1164,bb,hdef]
end Go.Abs

namespace Go.Abs
open Go.Proofs
def kidsG (cl:PL → T → Bool) (p:PL) (k:Int):List T → Nat → Bool
 | [],_=>true
 | t :: ts,i=>cl (p.inn (bindsOf k i).toNat) t && kidsG cl p k ts (i + 1)
def cleanF:Nat → PL → T → Bool
 | 0,_,_=>false
 | f + 1,p,t=>if t.kind=1 then !(p.guarded t).2 else if t.kind=3 then decide ((p.b.ofK p.base t.val).1=0) else
   (decide (t.kind=6) && decG (cleanF f p) p t) || kidsG (cleanF f) p t.kind t.kids 0
theorem binds_nat (k i:Int):bindsOf k i=((bindsOf k i).toNat:Int) ∧ (bindsOf k i).toNat ≤ 1:=by
 unfold bindsOf;split <;> simp
theorem countL_len:∀ ts:List T,ts.length ≤ T.countL ts
 | []=>by simp [T.countL]
 | .mk k n us :: ts=>by
  have:=countL_len ts
  simp only [T.countL,T.count,List.length_cons];omega
structure FC (p:PL) (t:T) (σ:St):Prop where
 s2:σ.sl 2=.c (.ref 1123002 (σ.tg 1123002) 0)
 o2:σ.ob 1123002=some (.box 145 p.cells)
 s3:σ.sl 3=.c (.ref 1123003 (σ.tg 1123003) 0)
 o3:σ.ob 1123003=some (.box 63 t.cells)
theorem keys_pl (p:PL):(plm p).keys2=[]:=by simp [AV.keys2,AV.keys1,plm,PL.cells,keysCs,Cell.keys]
theorem loop1123 {σ:St} {Q:SEx → St → Prop} (p:PL) (k n:Int) (ts:List T) (cl:PL → T → Bool) (hl:ts.length ≤ 1048576) (hm:p.more ≤ 900000000) (h:∀ t,t ∈ ts → ∀ i,Fn Tryz.prog 123 [plm (p.inn (bindsOf k i).toNat),tm t] (bb (cl (p.inn (bindsOf k i).toNat) t))) (H:FC p (.mk k n ts) σ)
  (s43:σ.sl 43=.c (.sl 3 40 (ts.map T.cells))) (s44:σ.sl 44=.c (.v (.int .i64 ts.length))) (s45:σ.sl 45=.c (.v (.int .i64 (0:Nat))))
  (hR:∀ σ',kidsG cl p k ts 0=false → σ'.sl 4=bb false → Q .ret σ') (hQ:∀ σ',kidsG cl p k ts 0=true → Q .normal σ'):W Tryz.prog 1123000 (.loop c1123b0) σ (onBlock 1 Q):=by
 refine W_loop (fun m σ=>∃ i:Nat,i + m=ts.length ∧ kidsG cl p k (ts.drop i) i=kidsG cl p k ts 0 ∧ FC p (.mk k n ts) σ ∧ σ.sl 43=.c (.sl 3 40 (ts.map T.cells)) ∧ σ.sl 44=.c (.v (.int .i64 ts.length)) ∧ σ.sl 45=.c (.v (.int .i64 i))) ts.length ⟨0,by simp,by simp,H,s43,s44,s45⟩ ?_
 clear H s43 s44 s45 σ
 rintro m σ ⟨i,hm2,hp,⟨s2,o2,s3,o3⟩,s43,s44,s45⟩
 rw [cells_mk] at o3
 unfold c1123b0
 by_cases hi:i < ts.length
 ·have w1:=wrap_succ (i:=i) (by omega)
  obtain ⟨t,ht⟩:=at_of hi
  obtain ⟨_,ht2⟩:=getE ht
  obtain ⟨b1,b2⟩:=binds_nat k i
  rw [drop_at ht,kidsG] at hp
  have hcall:=h t (List.mem_of_getElem? ht) i
  have hinn:=fn1161 p (bindsOf k i).toNat (by omega)
  rw [← b1] at hinn
  simp [s2,s3,o2,o3,s43,s44,s45,hi,ht2,PL.cells,cells_eq t]
  refine W_dregA ?_
  simp [s2,s3,o2,o3,PL.cells]
  refine CallA.fn (fn31 k i) (by simp [ib]) (by simp) rfl ?_
  simp [ib]
  refine CallA.fn hinn (by simp [plm,PL.cells,ib]) (by simp) (keys_pl _) ?_
  simp [plm,PL.cells]
  refine CallA.fn hcall (by simp [plm,PL.cells,tm,cells_eq t]) (by simp) rfl ?_
  cases hc:cl (p.inn (bindsOf k i).toNat) t with
  | false=>
   rw [hc] at hp
   simp [bb]
   refine realC_n ?_
   simp
   exact hR _ (by simpa using hp.symm) (by simp [bb])
  | true=>
   rw [hc] at hp
   simp [bb]
   refine realC_n ?_
   simp [s45,w1]
   exact ⟨m - 1,by omega,i + 1,by omega,by simpa using hp,⟨by simp [s2],by simp [o2,PL.cells],by simp [s3],by simp [o3,cells_mk]⟩,by simp [s43],by simp [s44],by simp⟩
 ·have:i=ts.length:=by omega
  subst this
  simp [kidsG] at hp
  simp [s43,s44,s45]
  exact hQ _ hp
theorem fn1123:∀ (f:Nat) (p:PL),p.b.Fit → ∀ (t:T),t.count ≤ f → t.count ≤ 1048576 → p.more + t.count ≤ 100000000 → t.wf=true → Fn Tryz.prog 123 [plm p,tm t] (bb (cleanF f p t))
 | 0,p,hb,t,hf,_,_,_=>by obtain ⟨k,n,ts⟩:=t;simp [T.count] at hf
 | f + 1,p,hb,t,hf,hc,hm,hw=>by
  have ih:=fn1123 f
  refine fn_of (base:=1123000) ok1123 rfl fun σ h0 hr=>?_
  have s0:σ.sl 0=plm p:=h0 0
  have s1:σ.sl 1=tm t:=h0 1
  simp only [plm,PL.cells] at s0
  have hcount:t.count=T.countL t.kids + 1:=by obtain ⟨k,n,ts⟩:=t;rfl
  have hdec:=fn1164 p hb t (cleanF f p) (by omega) hc hw fun a h1 h2=>ih p hb a (by omega) (by omega) (by omega) h2
  have hg:=fn1162 p t (by omega) hw
  have hof:=fn1163 p.b p.base t.val (wf_val hw)
  have hkid:∀ u,u ∈ t.kids → ∀ i,Fn Tryz.prog 123 [plm (p.inn (bindsOf t.kind i).toNat),tm u] (bb (cleanF f (p.inn (bindsOf t.kind i).toNat) u)):=fun u hu i=>by
   have h1:=count_mem hu
   have h2:=(binds_nat t.kind i).2
   refine ih (p.inn (bindsOf t.kind i).toNat) hb u (by omega) (by omega) (by show p.more + (bindsOf t.kind i).toNat + u.count ≤ 100000000;omega) ?_
   obtain ⟨k,n,ts⟩:=t
   exact (wf_kids hw).2 u hu
  have hkl:t.kids.length ≤ T.countL t.kids:=by
   exact countL_len t.kids
  have hdef:cleanF (f + 1) p t=(if t.kind=1 then !(p.guarded t).2 else if t.kind=3 then decide ((p.b.ofK p.base t.val).1=0) else (decide (t.kind=6) && decG (cleanF f p) p t) || kidsG (cleanF f) p t.kind t.kids 0):=rfl
  clear h0 hr
  obtain ⟨k,n,ts⟩:=t
  rw [show (T.mk k n ts).kind=k from rfl,show (T.mk k n ts).val=n from rfl,show (T.mk k n ts).kids=ts from rfl] at *
  rw [hdef]
  simp only [tm,cells_mk] at s1
  unfold c1123
  by_cases k1:k=1
  ·subst k1
   simp [s0,s1]
   refine ECall.fn hg (by simp [plm,PL.cells,tm,cells_mk]) (by simp) (keys_ib _ _) fun _=>?_
   simp [ib,bb,r1123]
  ·by_cases k3:k=3
   ·simp [s0,s1,k1,k3]
    refine ECall.fn hof (by simp [bm,B.cells,ib]) (by simp) (keys_ii _ _) fun _=>?_
    simp [ib,bb,r1123]
   ·rw [if_neg k1,if_neg k3]
    by_cases k6:k=6
    ·subst k6
     simp [s0,s1]
     refine ECall.fn hdec (by simp [plm,PL.cells,tm,cells_mk]) (by simp) rfl fun _=>?_
     cases hd:decG (cleanF f p) p (.mk 6 n ts) with
     | true=>simp [bb,r1123]
     | false=>
      simp [bb]
      refine loop1123 p 6 n ts (cleanF f) (by omega) (by omega) hkid ⟨by simp,by simp [PL.cells],by simp,by simp [cells_mk]⟩ (by simp) (by simp) (by simp) (fun σ' e q4=>?_) fun σ' e=>?_
      ·simp [q4,r1123,bb,e]
      ·simp [r1123,bb,e]
    ·simp [s0,s1,k1,k3,k6]
     refine loop1123 p k n ts (cleanF f) (by omega) (by omega) hkid ⟨by simp,by simp [PL.cells],by simp,by simp [cells_mk]⟩ (by simp) (by simp) (by simp) (fun σ' e q4=>?_) fun σ' e=>?_
     ·simp [q4,r1123,bb,e]
     ·simp [r1123,bb,e]
end Go.Abs

namespace Go.Abs
open Go.Proofs
def cArgs (b:B) (c:Int):List A:=match b.cons[c.toNat]? with | some k=>k.args | none=>[]
def jDom (p:PL) (j:Int):List T:=match p.args[j.toNat]? with | some a=>a.dom | none=>[]
def badA (cl gd:T → Bool) (p:PL) (a:A) (x:T):Bool:=(!a.rc && !cl x) || (a.rc && decide (a.dom.length=0) && !gd x) || (a.rc && decide (0 < a.dom.length) && !(p.guarded x).2)
def goodL (cl gd:T → Bool) (p:PL):List A → List T → Bool
 | a :: ys,x :: xs=>!badA cl gd p a x && goodL cl gd p ys xs
 | _,_=>true
def goodF:Nat → PL → Int → T → Bool
 | 0,_,_,_=>false
 | f + 1,p,cons,t=>
  if (p.guarded t.split.1).2 then decide (t.split.2.length=(jDom p (p.guarded t.split.1).1).length) && t.split.2.all (cleanF f p)
  else if t.split.1.kind ≠ 3 then false
  else if (p.b.ofK p.base t.split.1.val).1 ≠ 5 ∨ cons ≤ (p.b.ofK p.base t.split.1.val).2 ∨ t.split.2.length ≠ (cArgs p.b (p.b.ofK p.base t.split.1.val).2).length then false
  else goodL (cleanF f p) (goodF f p cons) p (cArgs p.b (p.b.ofK p.base t.split.1.val).2) t.split.2
structure FG (p:PL) (cons:Int) (xs:List T) (σ:St):Prop where
 s2:σ.sl 2=.c (.v (.int .i64 cons))
 s3:σ.sl 3=.c (.ref 1165003 (σ.tg 1165003) 0)
 o3:σ.ob 1165003=some (.box 145 p.cells)
 s8:σ.sl 8=.c (.sl 3 40 (xs.map T.cells))
theorem goodL_at {cl gd:T → Bool} {p:PL}:∀ {ys:List A} {xs:List T} {i:Nat} {a:A} {x:T},ys[i]? = some a → xs[i]? = some x → goodL cl gd p (ys.drop i) (xs.drop i)=(!badA cl gd p a x && goodL cl gd p (ys.drop (i + 1)) (xs.drop (i + 1))):=by
 intro ys xs i a x ha hx
 rw [drop_at ha,drop_at hx,goodL]
theorem loop1165 {σ:St} {Q:SEx → St → Prop} (p:PL) (cons:Int) (ys:List A) (xs:List T) (cl gd:T → Bool) (hl:ys.length=xs.length) (hx1:xs.length ≤ 1048576) (hm:p.more ≤ 900000000) (hw:∀ x,x ∈ xs → x.wf=true)
  (h1:∀ x,x ∈ xs → Fn Tryz.prog 123 [plm p,tm x] (bb (cl x))) (h2:∀ x,x ∈ xs → Fn Tryz.prog 165 [plm p,tm x,ib cons] (bb (gd x))) (H:FG p cons xs σ)
  (s83:σ.sl 83=.c (.sl 7 104 (ys.map A.cells))) (s84:σ.sl 84=.c (.v (.int .i64 ys.length))) (s85:σ.sl 85=.c (.v (.int .i64 (0:Nat))))
  (hR:∀ σ',goodL cl gd p ys xs=false → σ'.sl 6=bb false → Q .ret σ') (hQ:∀ σ',goodL cl gd p ys xs=true → Q .normal σ'):W Tryz.prog 1165000 (.loop c1165b0) σ (onBlock 0 Q):=by
 refine W_loop (fun m σ=>∃ i:Nat,i + m=ys.length ∧ goodL cl gd p (ys.drop i) (xs.drop i)=goodL cl gd p ys xs ∧ FG p cons xs σ ∧ σ.sl 83=.c (.sl 7 104 (ys.map A.cells)) ∧ σ.sl 84=.c (.v (.int .i64 ys.length)) ∧ σ.sl 85=.c (.v (.int .i64 i))) ys.length ⟨0,by simp,by simp,H,s83,s84,s85⟩ ?_
 clear H s83 s84 s85 σ
 rintro m σ ⟨i,hm2,hp,⟨s2,s3,o3,s8⟩,s83,s84,s85⟩
 unfold c1165b0
 by_cases hi:i < ys.length
 ·have w1:=wrap_succ (i:=i) (by omega)
  obtain ⟨a,ha⟩:=at_of hi
  obtain ⟨x,hx⟩:=at_of (ts:=xs) (i:=i) (by omega)
  obtain ⟨_,ha2⟩:=getE ha
  obtain ⟨hxl,hx2⟩:=getE hx
  have hxm:=List.mem_of_getElem? hx
  have hcl:=h1 x hxm
  have hgd:=h2 x hxm
  rw [goodL_at ha hx] at hp
  simp [s2,s3,o3,s8,s83,s84,s85,hi,ha2,A.cells]
  refine W_dregA ?_
  simp [s2,s3,o3,s8,hxl,hx2,PL.cells]
  refine CallA.fn (fn1162 p x (by omega) (hw x hxm)) (by simp [plm,PL.cells,tm]) (by simp) (keys_ib _ _) ?_
  simp [ib,bb]
  refine realC_n ?_
  simp
  refine W_dregA ?_
  have fin:∀ σ',badA cl gd p a x=true → σ'.sl 6=bb false → Q .ret σ':=fun σ' hb q=>hR σ' (by rw [hb] at hp;simpa using hp.symm) q
  have go:badA cl gd p a x=false → goodL cl gd p (ys.drop (i + 1)) (xs.drop (i + 1))=goodL cl gd p ys xs:=fun hb=>by rw [hb] at hp;simpa using hp
  cases hrc:a.rc with
  | false=>
   simp [s2,s3,o3,s8,hxl,hx2,PL.cells,hrc]
   refine GCallA.fn (fun _=>hcl) (by simp [plm,PL.cells,tm]) (by simp) rfl ?_
   cases hc:cl x with
   | false=>
    simp [bb]
    refine realC_n ?_
    simp
    exact fin _ (by simp [badA,hrc,hc]) (by simp [bb])
   | true=>
    simp [bb]
    refine realC_n ?_
    simp
    refine W_dregA ?_
    simp [s2,s3,o3,s8,hxl,hx2,PL.cells,hrc]
    refine GCallA.fn (fun _=>hgd) (by simp [plm,PL.cells,tm,ib]) (by simp) rfl ?_
    simp [bb]
    refine realC_n ?_
    simp [hrc,s85,w1]
    exact ⟨m - 1,by omega,i + 1,by omega,go (by simp [badA,hrc,hc]),⟨by simp [s2],by simp [s3],by simp [o3,PL.cells],by simp [s8]⟩,by simp [s83],by simp [s84],by simp⟩
  | true=>
   simp [s2,s3,o3,s8,hxl,hx2,PL.cells,hrc]
   refine GCallA.fn (fun _=>hcl) (by simp [plm,PL.cells,tm]) (by simp) rfl ?_
   simp [bb]
   refine realC_n ?_
   simp
   refine W_dregA ?_
   by_cases hd:a.dom.length=0
   ·have hd':(a.dom.length:Int)=0:=by omega
    have hd2:¬ (0:Int) < a.dom.length:=by omega
    simp [s2,s3,o3,s8,hxl,hx2,PL.cells,hrc,hd']
    refine GCallA.fn (fun _=>hgd) (by simp [plm,PL.cells,tm,ib]) (by simp) rfl ?_
    cases hc:gd x with
    | false=>
     simp [bb]
     refine realC_n ?_
     simp
     exact fin _ (by simp [badA,hrc,hc,hd]) (by simp [bb])
    | true=>
     simp [bb]
     refine realC_n ?_
     simp [hrc,hd,hd',hd2,s85,w1]
     exact ⟨m - 1,by omega,i + 1,by omega,go (by simp [badA,hrc,hc,hd]),⟨by simp [s2],by simp [s3],by simp [o3,PL.cells],by simp [s8]⟩,by simp [s83],by simp [s84],by simp⟩
   ·have hd':¬ (a.dom.length:Int)=0:=by omega
    have hd2:(0:Int) < a.dom.length:=by omega
    have hd3:0 < a.dom.length:=by omega
    have hdn:a.dom ≠ []:=fun e=>by simp [e] at hd
    simp [s2,s3,o3,s8,hxl,hx2,PL.cells,hrc,hd']
    refine GCallA.fn (fun _=>hgd) (by simp [plm,PL.cells,tm,ib]) (by simp) rfl ?_
    simp [bb]
    refine realC_n ?_
    cases hc:(p.guarded x).2 with
    | false=>
     simp [hrc,hd2,hd3,hc,hdn]
     exact fin _ (by simp [badA,hrc,hc,hd,hd3]) (by simp [bb])
    | true=>
     simp [hrc,hd2,hd3,hc,hdn,s85,w1]
     exact ⟨m - 1,by omega,i + 1,by omega,go (by simp [badA,hrc,hc,hd,hd3]),⟨by simp [s2],by simp [s3],by simp [o3,PL.cells],by simp [s8]⟩,by simp [s83],by simp [s84],by simp⟩
 ·have:i=ys.length:=by omega
  subst this
  simp [goodL] at hp
  simp [s83,s84,s85]
  exact hQ _ hp
theorem fn1165:∀ (f:Nat) (p:PL),p.b.Fit → ∀ (cons:Int) (t:T),t.count ≤ f → t.count ≤ 1048576 → p.more + t.count ≤ 100000000 → t.wf=true → Fn Tryz.prog 165 [plm p,tm t,ib cons] (bb (goodF f p cons t))
 | 0,p,hb,cons,t,hf,_,_,_=>by obtain ⟨k,n,ts⟩:=t;simp [T.count] at hf
 | f + 1,p,hb,cons,t,hf,hc,hm,hw=>by
  have ih:=fn1165 f
  refine fn_of (base:=1165000) ok1165 rfl fun σ h0 hr=>?_
  have s0:σ.sl 0=plm p:=h0 0
  have s1:σ.sl 1=tm t:=h0 1
  have s2:σ.sl 2=.c (.v (.int .i64 cons)):=h0 2
  simp only [plm,PL.cells] at s0
  rw [tm,cells_eq] at s1
  clear h0 hr
  obtain ⟨f1,f2,f3⟩:=split_facts t.count t (Nat.le_refl _)
  have hlen:t.split.2.length ≤ 1048576:=by
   have:∀ (m:Nat) (t:T),t.count ≤ m → t.split.2.length ≤ t.count:=by
    intro m
    induction m with
    | zero=>intro t h;obtain ⟨k,n,ts⟩:=t;simp [T.count] at h
    | succ m ihm=>
     intro t h
     by_cases h2:t.two 6=true
     ·obtain ⟨n,g,a,rfl⟩:=two_is h2
      have hcc:(T.mk 6 n [g,a]).count=g.count + a.count + 1:=by simp [T.count,T.countL]
      have:=ihm g (by omega)
      rw [split_app];simp;omega
     ·rw [split_no (by simpa using h2)];simp
   have:=this t.count t (Nat.le_refl _)
   omega
  have hcl:∀ x,x ∈ t.split.2 → Fn Tryz.prog 123 [plm p,tm x] (bb (cleanF f p x)):=fun x hx=>fn1123 f p hb x (by have:=(f3 x hx).1;omega) (by have:=(f3 x hx).1;omega) (by have:=(f3 x hx).1;omega) ((f3 x hx).2 hw)
  have hgd:∀ x,x ∈ t.split.2 → Fn Tryz.prog 165 [plm p,tm x,ib cons] (bb (goodF f p cons x)):=fun x hx=>ih p hb cons x (by have:=(f3 x hx).1;omega) (by have:=(f3 x hx).1;omega) (by have:=(f3 x hx).1;omega) ((f3 x hx).2 hw)
  unfold c1165
  simp [s0,s1]
  refine ECall.fn (fn1184 t hc) (by simp [tm,cells_eq]) (by simp) (keys_tt _ _) fun _=>?_
  have hdef:goodF (f + 1) p cons t=goodF (f + 1) p cons t:=rfl
  conv at hdef=>rhs;unfold goodF
  generalize t.split.1=g at *
  generalize t.split.2=args at *
  simp [tm,tms,cells_eq g]
  refine ECall.fn (fn1162 p g (by omega) (f2 hw)) (by simp [tm,plm,PL.cells,cells_eq]) (by simp) (keys_ib _ _) fun _=>?_
  simp [ib,bb]
  refine And.symm ⟨fun hg=>?_,fun hg=>?_⟩
  ·-- no recursive argument
   rw [if_neg (by simp [hg])] at hdef
   by_cases k3:g.kind=3
   ·rw [if_neg (by simp [k3])] at hdef
    simp [k3]
    refine ECall.fn (fn1163 p.b p.base g.val (wf_val (f2 hw))) (by simp [bm,B.cells,ib]) (by simp) (keys_ii _ _) fun _=>?_
    generalize hok:p.b.ofK p.base g.val=kk at *
    obtain ⟨kd,kx⟩:=kk
    simp only [ib]
    by_cases k5:kd=5
    ·subst k5
     obtain ⟨k,hk1,hk2⟩:=ofK_con (b:=p.b) (base:=p.base) (n:=g.val) (by rw [hok])
     rw [hok] at hk1
     simp only [] at hk1
     subst hk1
     obtain ⟨s,hs⟩:=at_of hk2
     obtain ⟨hkl,hs2⟩:=getE hs
     have hsx:cArgs p.b (k:Int)=s.args:=by simp [cArgs,hs]
     by_cases k6:cons ≤ (k:Int)
     ·have hdf:goodF (f + 1) p cons t=false:=by rw [hdef,if_pos (.inr (.inl k6))]
      simp [s2,hkl,hs2,K.cells,k6,r1165,bb,hdf]
     ·by_cases hln:args.length=s.args.length
      ·have hln':(args.length:Int)=s.args.length:=by omega
       rw [if_neg (by rw [hsx];simp [k6,hln])] at hdef
       simp only [hsx] at hdef
       simp [s2,hkl,hs2,K.cells,k6,hln,hln']
       refine loop1165 p cons s.args args (cleanF f p) (goodF f p cons) hln.symm hlen (by omega) (fun x hx=>(f3 x hx).2 hw) hcl hgd ⟨by simp [s2],by simp,by simp [PL.cells],by simp⟩ (by simp) (by simp) (by simp) (fun σ' e q=>?_) fun σ' e=>?_
       ·simp [q,r1165,bb,hdef,e]
       ·simp [r1165,bb,hdef,e]
      ·have hln':¬ (args.length:Int)=s.args.length:=by omega
       have hdf:goodF (f + 1) p cons t=false:=by rw [hdef,if_pos (.inr (.inr (by rw [hsx];exact hln)))]
       simp [s2,hkl,hs2,K.cells,k6,hln,hln',r1165,bb,hdf]
    ·have hdf:goodF (f + 1) p cons t=false:=by rw [hdef,if_pos (.inl k5)]
     cases hx:p.b.cons[kx.toNat]? with
     | none=>simp [s2,k5,hx,r1165,bb,hdf]
     | some s=>simp [s2,k5,hx,K.cells,r1165,bb,hdf]
   ·rw [if_pos (by simp [k3])] at hdef
    simp [k3,r1165,bb,hdef]
  ·rw [if_pos hg] at hdef
   obtain ⟨j,a,hj,ha,_⟩:=guarded_lt hg
   obtain ⟨hjl,ha2⟩:=getE ha
   have hjd:jDom p (p.guarded g).1=a.dom:=by simp [jDom,hj,ha]
   rw [hjd] at hdef
   rw [hdef]
   have hc1:=fn1185 p args (cleanF f p) hcl
   generalize args.all (cleanF f p)=z at *
   by_cases hln:args.length=a.dom.length
   ·have hln':(args.length:Int)=a.dom.length:=by omega
    simp [hj,hjl,ha2,A.cells,hln,hln']
    refine GCall.fn (fun _=>hc1) (by simp [plm,PL.cells,tms]) (by simp) rfl fun _=>?_
    simp [r1165,bb]
   ·have hln':¬ (args.length:Int)=a.dom.length:=by omega
    simp [hj,hjl,ha2,A.cells,hln,hln']
    refine GCall.fn (fun _=>hc1) (by simp [plm,PL.cells,tms]) (by simp) rfl fun _=>?_
    simp [r1165,bb]
end Go.Abs

namespace Go.Abs
open Go.Proofs
def T.ok (t:T):Prop:=t.count ≤ 1048576 ∧ t.wf=true
structure A.Ok (a:A):Prop where
 typ:a.typ.ok
 dom:∀ t,t ∈ a.dom → t.ok
 idx:∀ t,t ∈ a.idx → t.ok
structure S.Ok (s:S):Prop where
 idx:∀ a,a ∈ s.idx → a.Ok
 dec:s.decType.ok
structure K.Ok (c:K):Prop where
 args:∀ a,a ∈ c.args → a.Ok
 idx:∀ t,t ∈ c.idx → t.ok
 dec:c.dec.ok
structure B.Ok (b:B):Prop where
 sorts:∀ s,s ∈ b.sorts → s.Ok
 cons:∀ c,c ∈ b.cons → c.Ok
def NN:Nat:=1048576
def clean (p:PL) (t:T):Bool:=cleanF NN p t
def good (p:PL) (c:Int) (t:T):Bool:=goodF NN p c t
theorem fnClean {p:PL} (hb:p.b.Fit) {t:T} (ht:t.ok) (hm:p.more ≤ 1000):Fn Tryz.prog 123 [plm p,tm t] (bb (clean p t)):=fn1123 NN p hb t ht.1 ht.1 (by have:=ht.1;omega) ht.2
theorem fnGood {p:PL} (hb:p.b.Fit) {t:T} (ht:t.ok) (hm:p.more ≤ 1000) (c:Int):Fn Tryz.prog 165 [plm p,tm t,ib c] (bb (good p c t)):=fn1165 NN p hb c t ht.1 ht.1 (by have:=ht.1;omega) ht.2
def badI (p:PL) (c:Int) (a:A) (x:T):Bool:=(a.rc && !good p c x) || (!a.rc && !clean p x)
def indG (p:PL) (c:Int):List A → List T → Bool
 | a :: ys,x :: xs=>!badI p c a x && indG p c ys xs
 | _,_=>true
structure FI (p:PL) (c:Int) (l:List T) (σ:St):Prop where
 s2:σ.sl 2=.c (.sl 3 40 (l.map T.cells))
 s3:σ.sl 3=.c (.v (.int .i64 c))
 s4:σ.sl 4=.c (.ref 1124004 (σ.tg 1124004) 0)
 o4:σ.ob 1124004=some (.box 145 p.cells)
theorem loop1124 {σ:St} {Q:SEx → St → Prop} (p:PL) (hb:p.b.Fit) (hm:p.more ≤ 1000) (c:Int) (ys:List A) (xs:List T) (hl:ys.length ≤ xs.length) (h12:ys.length ≤ 12) (hx:∀ x,x ∈ xs → x.ok) (H:FI p c xs σ)
  (s17:σ.sl 17=.c (.sl 7 104 (ys.map A.cells))) (s18:σ.sl 18=.c (.v (.int .i64 ys.length))) (s19:σ.sl 19=.c (.v (.int .i64 (0:Nat))))
  (hR:∀ σ',indG p c ys xs=false → σ'.sl 8=bb false → Q .ret σ') (hQ:∀ σ',indG p c ys xs=true → Q .normal σ'):W Tryz.prog 1124000 (.loop c1124b0) σ (onBlock 0 Q):=by
 refine W_loop (fun m σ=>∃ i:Nat,i + m=ys.length ∧ indG p c (ys.drop i) (xs.drop i)=indG p c ys xs ∧ FI p c xs σ ∧ σ.sl 17=.c (.sl 7 104 (ys.map A.cells)) ∧ σ.sl 18=.c (.v (.int .i64 ys.length)) ∧ σ.sl 19=.c (.v (.int .i64 i))) ys.length ⟨0,by simp,by simp,H,s17,s18,s19⟩ ?_
 clear H s17 s18 s19 σ
 rintro m σ ⟨i,hm2,hp,⟨s2,s3,s4,o4⟩,s17,s18,s19⟩
 unfold c1124b0
 by_cases hi:i < ys.length
 ·have w1:=wrap_succ (i:=i) (by omega)
  obtain ⟨a,ha⟩:=at_of hi
  obtain ⟨x,hx1⟩:=at_of (ts:=xs) (i:=i) (by omega)
  obtain ⟨_,ha2⟩:=getE ha
  obtain ⟨hxl,hx2⟩:=getE hx1
  have hxo:=hx x (List.mem_of_getElem? hx1)
  rw [drop_at ha,drop_at hx1,indG] at hp
  simp [s2,s3,s4,o4,s17,s18,s19,hi,ha2,A.cells]
  refine W_dregA ?_
  have fin:∀ σ',badI p c a x=true → σ'.sl 8=bb false → Q .ret σ':=fun σ' hb q=>hR σ' (by rw [hb] at hp;simpa using hp.symm) q
  have go:badI p c a x=false → indG p c (ys.drop (i + 1)) (xs.drop (i + 1))=indG p c ys xs:=fun hb=>by rw [hb] at hp;simpa using hp
  cases hrc:a.rc with
  | false=>
   simp [s2,s3,s4,o4,hxl,hx2,PL.cells,hrc]
   refine GCallA.fn (fun _=>fnGood hb hxo hm c) (by simp [plm,PL.cells,tm,ib]) (by simp) rfl ?_
   simp [s2,s3,s4,o4,hxl,hx2,PL.cells,hrc,bb]
   refine GCallA.fn (fun _=>fnClean hb hxo hm) (by simp [plm,PL.cells,tm]) (by simp) rfl ?_
   cases hc:clean p x with
   | false=>
    simp [bb]
    refine realC_n ?_
    simp
    exact fin _ (by simp [badI,hrc,hc]) (by simp [bb])
   | true=>
    simp [bb]
    refine realC_n ?_
    simp [s19,w1]
    exact ⟨m - 1,by omega,i + 1,by omega,go (by simp [badI,hrc,hc]),⟨by simp [s2],by simp [s3],by simp [s4],by simp [o4,PL.cells]⟩,by simp [s17],by simp [s18],by simp⟩
  | true=>
   simp [s2,s3,s4,o4,hxl,hx2,PL.cells,hrc]
   refine GCallA.fn (fun _=>fnGood hb hxo hm c) (by simp [plm,PL.cells,tm,ib]) (by simp) rfl ?_
   simp [s2,s3,s4,o4,hxl,hx2,PL.cells,hrc,bb]
   refine GCallA.fn (fun _=>fnClean hb hxo hm) (by simp [plm,PL.cells,tm]) (by simp) rfl ?_
   cases hc:good p c x with
   | false=>
    simp [bb]
    refine realC_n ?_
    simp
    exact fin _ (by simp [badI,hrc,hc]) (by simp [bb])
   | true=>
    simp [bb]
    refine realC_n ?_
    simp [s19,w1]
    exact ⟨m - 1,by omega,i + 1,by omega,go (by simp [badI,hrc,hc]),⟨by simp [s2],by simp [s3],by simp [s4],by simp [o4,PL.cells]⟩,by simp [s17],by simp [s18],by simp⟩
 ·have:i=ys.length:=by omega
  subst this
  simp [indG] at hp
  simp [s17,s18,s19]
  exact hQ _ hp
theorem fn1124 (p:PL) (hb:p.b.Fit) (hm:p.more ≤ 1000) (k:Nat) (s:S) (hs:p.b.sorts[k]? = some s) (c:Int) (xs:List T) (hl:s.idx.length ≤ xs.length) (hx:∀ x,x ∈ xs → x.ok):Fn Tryz.prog 124 [plm p,ib k,tms xs,ib c] (bb (indG p c s.idx xs)):=by
 refine fn_of (base:=1124000) ok1124 rfl fun σ h0 hr=>?_
 have s0:σ.sl 0=plm p:=h0 0
 have s1:σ.sl 1=.c (.v (.int .i64 k)):=h0 1
 have s2:σ.sl 2=tms xs:=h0 2
 have s3:σ.sl 3=.c (.v (.int .i64 c)):=h0 3
 simp only [plm,PL.cells] at s0
 simp only [tms] at s2
 clear h0 hr
 obtain ⟨hkl,hs2⟩:=getE hs
 unfold c1124
 simp [s0,s1,s2,s3,hkl,hs2,S.cells]
 refine loop1124 p hb hm c s.idx xs hl (hb.srt s (List.mem_of_getElem? hs)) hx ⟨by simp [s2],by simp [s3],by simp,by simp [PL.cells]⟩ (by simp) (by simp) (by simp) (fun σ' e q=>?_) fun σ' e=>?_
 ·simp [q,r1124,bb,e]
 ·simp [r1124,bb,e]
end Go.Abs

namespace Go.Abs
open Go.Proofs
def domG (p:PL):List T → Nat → Bool
 | [],_=>true
 | d :: r,j=>clean (p.inn j) d && domG p r (j + 1)
def plAt (b:B) (base:Int) (l:List A) (i:Nat):PL:=⟨b,base,l.take i,0⟩
def argG (b:B) (base:Int) (l:List A) (c:Int) (i:Nat) (a:A):Bool:=
 if a.rc then domG (plAt b base l i) a.dom 0 && indG ((plAt b base l i).inn a.dom.length) c (sIdx b a.sort) a.idx
 else clean (plAt b base l i) a.typ
def rowG (b:B) (base:Int) (l:List A) (c:Int):List A → Nat → Bool
 | [],_=>true
 | a :: r,i=>argG b base l c i a && rowG b base l c r (i + 1)
structure A.Fine (b:B) (a:A):Prop where
 ok:a.Ok
 dom:a.rc=true → a.dom.length ≤ 12
 srt:a.rc=true → 0 ≤ a.sort ∧ a.sort < b.sorts.length
 len:a.rc=true → a.idx.length=(sIdx b a.sort).length
structure FR0 (b:B) (base:Int) (l:List A) (c:Int) (σ:St):Prop where
 s1:σ.sl 1=.c (.v (.int .i64 base))
 s2:σ.sl 2=.c (.sl 7 104 (l.map A.cells))
 s3:σ.sl 3=.c (.v (.int .i64 c))
 s4:σ.sl 4=.c (.ref 1122004 (σ.tg 1122004) 0)
 o4:σ.ob 1122004=some (.box 68 b.cells)
 s14:σ.sl 14=.c (.sl 7 104 (l.map A.cells))
 s15:σ.sl 15=.c (.v (.int .i64 l.length))
structure FR1 (p:PL) (a:A) (i:Nat) (σ:St):Prop where
 s10:σ.sl 10=.c (.ref 1122010 (σ.tg 1122010) 0)
 o10:σ.ob 1122010=some (.box 126 a.cells)
 s11:σ.sl 11=.c (.ref 1122011 (σ.tg 1122011) 0)
 o11:σ.ob 1122011=some (.box 145 p.cells)
 s16:σ.sl 16=.c (.v (.int .i64 i))
theorem loop1122a {σ:St} {Q:SEx → St → Prop} (b:B) (base:Int) (l:List A) (c:Int) (p:PL) (hb:p.b.Fit) (hp0:p.more=0) (a:A) (i:Nat) (hd:a.dom.length ≤ 12) (hok:a.Ok) (H0:FR0 b base l c σ) (H1:FR1 p a i σ)
  (s36:σ.sl 36=.c (.sl 3 40 (a.dom.map T.cells))) (s37:σ.sl 37=.c (.v (.int .i64 a.dom.length))) (s38:σ.sl 38=.c (.v (.int .i64 (0:Nat))))
  (hR:∀ σ',domG p a.dom 0=false → σ'.sl 8=bb false → Q .ret σ') (hQ:∀ σ',domG p a.dom 0=true → FR0 b base l c σ' → FR1 p a i σ' → Q .normal σ'):W Tryz.prog 1122000 (.loop c1122b0) σ (onBlock 2 Q):=by
 refine W_loop (fun m σ=>∃ j:Nat,j + m=a.dom.length ∧ domG p (a.dom.drop j) j=domG p a.dom 0 ∧ FR0 b base l c σ ∧ FR1 p a i σ ∧ σ.sl 36=.c (.sl 3 40 (a.dom.map T.cells)) ∧ σ.sl 37=.c (.v (.int .i64 a.dom.length)) ∧ σ.sl 38=.c (.v (.int .i64 j))) a.dom.length ⟨0,by simp,by simp,H0,H1,s36,s37,s38⟩ ?_
 clear H0 H1 s36 s37 s38 σ
 rintro m σ ⟨j,hm,hp,⟨s1,s2,s3,s4,o4,s14,s15⟩,⟨s10,o10,s11,o11,s16⟩,s36,s37,s38⟩
 unfold c1122b0
 by_cases hj:j < a.dom.length
 ·have w1:=wrap_succ (i:=j) (by omega)
  obtain ⟨d,hd1⟩:=at_of hj
  obtain ⟨_,hd2⟩:=getE hd1
  rw [drop_at hd1,domG] at hp
  have hdo:=hok.dom d (List.mem_of_getElem? hd1)
  have hcall:=fnClean (p:=p.inn j) hb hdo (by show p.more + j ≤ 1000;omega)
  simp [s36,s37,s38,hj,hd2,cells_eq d]
  refine W_dregA ?_
  simp [s11,o11,PL.cells]
  refine CallA.fn (fn1161 p j (by omega)) (by simp [plm,PL.cells,ib]) (by simp) (keys_pl _) ?_
  simp [plm,PL.cells]
  refine CallA.fn hcall (by simp [plm,PL.cells,tm,cells_eq d]) (by simp) rfl ?_
  cases hc:clean (p.inn j) d with
  | false=>
   rw [hc] at hp
   simp [bb]
   refine realC_n ?_
   simp
   exact hR _ (by simpa using hp.symm) (by simp [bb])
  | true=>
   rw [hc] at hp
   simp [bb]
   refine realC_n ?_
   simp [s38,w1]
   exact ⟨m - 1,by omega,j + 1,by omega,by simpa using hp,⟨by simp [s1],by simp [s2],by simp [s3],by simp [s4],by simp [o4],by simp [s14],by simp [s15]⟩,⟨by simp [s10],by simp [o10],by simp [s11],by simp [o11,PL.cells],by simp [s16]⟩,by simp [s36],by simp [s37],by simp⟩
 ·have:j=a.dom.length:=by omega
  subst this
  simp [domG] at hp
  simp [s36,s37,s38]
  exact hQ _ hp ⟨by simp [s1],by simp [s2],by simp [s3],by simp [s4],by simp [o4],by simp [s14],by simp [s15]⟩ ⟨by simp [s10],by simp [o10],by simp [s11],by simp [o11],by simp [s16]⟩
theorem loop1122 {σ:St} {Q:SEx → St → Prop} (b:B) (hb:b.Fit) (base:Int) (l:List A) (hl:l.length ≤ 12) (c:Int) (hf:∀ a,a ∈ l → a.Fine b) (H:FR0 b base l c σ) (s16:σ.sl 16=.c (.v (.int .i64 (0:Nat))))
  (hR:∀ σ',rowG b base l c l 0=false → σ'.sl 8=bb false → Q .ret σ') (hQ:∀ σ',rowG b base l c l 0=true → Q .normal σ'):W Tryz.prog 1122000 (.loop c1122b1) σ (onBlock 0 Q):=by
 refine W_loop (fun m σ=>∃ i:Nat,i + m=l.length ∧ rowG b base l c (l.drop i) i=rowG b base l c l 0 ∧ FR0 b base l c σ ∧ σ.sl 16=.c (.v (.int .i64 i))) l.length ⟨0,by simp,by simp,H,s16⟩ ?_
 clear H s16 σ
 rintro m σ ⟨i,hm,hp,⟨s1,s2,s3,s4,o4,s14,s15⟩,s16⟩
 unfold c1122b1
 by_cases hi:i < l.length
 ·have w1:=wrap_succ (i:=i) (by omega)
  obtain ⟨a,ha⟩:=at_of hi
  obtain ⟨_,ha2⟩:=getE ha
  have haf:=hf a (List.mem_of_getElem? ha)
  rw [drop_at ha,rowG] at hp
  simp [s1,s2,s3,s4,o4,s14,s15,s16,hi,ha2,A.cells]
  refine W_dregD w1122_0 f1122_0 (by decide) ?_
  unfold w1122_0 f1122_0
  simp [s1,s2,s3,s4,o4,B.cells,optL]
  refine ⟨⟨by simp [room];omega,by omega⟩,by simp [keysCs,Cell.keys],realC_n ?_⟩
  have fin:∀ σ',argG b base l c i a=false → σ'.sl 8=bb false → Q .ret σ':=fun σ' hb q=>hR σ' (by rw [hb] at hp;simpa using hp.symm) q
  have go:argG b base l c i a=true → rowG b base l c (l.drop (i + 1)) (i + 1)=rowG b base l c l 0:=fun hb=>by rw [hb] at hp;simpa using hp
  have hpb:(plAt b base l i).b.Fit:=hb
  cases hrc:a.rc with
  | false=>
   have hag:argG b base l c i a=clean (plAt b base l i) a.typ:=by simp [argG,hrc]
   simp [hrc]
   refine ECall.fn (fnClean hpb haf.ok.typ (by show (0:Nat) ≤ 1000;omega)) (by simp [plm,PL.cells,plAt,tm,cells_eq,B.cells,List.map_take]) (by simp) rfl fun _=>?_
   cases hc:clean (plAt b base l i) a.typ with
   | false=>
    simp [bb]
    exact fin _ (by rw [hag,hc]) (by simp [bb])
   | true=>
    simp [bb,s16,w1]
    exact ⟨m - 1,by omega,i + 1,by omega,go (by rw [hag,hc]),⟨by simp [s1],by simp [s2],by simp [s3],by simp [s4],by simp [o4,B.cells],by simp [s14],by simp [s15]⟩,by simp⟩
  | true=>
   have hag:argG b base l c i a=(domG (plAt b base l i) a.dom 0 && indG ((plAt b base l i).inn a.dom.length) c (sIdx b a.sort) a.idx):=by simp [argG,hrc]
   have hd12:=haf.dom hrc
   obtain ⟨hs0,hs1⟩:=haf.srt hrc
   have hsl:=haf.len hrc
   obtain ⟨k,hk⟩:=Int.eq_ofNat_of_zero_le hs0
   obtain ⟨s,hs⟩:=at_of (ts:=b.sorts) (i:=k) (by omega)
   have hsx:sIdx b a.sort=s.idx:=by rw [hk];simp [sIdx,hs]
   rw [hsx] at hsl hag
   have hind:=fn1124 ((plAt b base l i).inn a.dom.length) hb (by show 0 + a.dom.length ≤ 1000;omega) k s hs c a.idx (by omega) haf.ok.idx
   simp [hrc]
   refine loop1122a b base l c (plAt b base l i) hpb rfl a i hd12 haf.ok ⟨by simp [s1],by simp [s2],by simp [s3],by simp [s4],by simp [o4,B.cells],by simp [s14],by simp [s15]⟩ ⟨by simp,by simp [A.cells,hrc],by simp,by simp [plAt,PL.cells,List.map_take],by simp [s16]⟩ (by simp) (by simp) (by simp) (fun σ' e q=>?_) fun σ' e H0 H1=>?_
   ·simp
    exact fin _ (by rw [hag,e];rfl) q
   clear s1 s2 s3 s4 o4 s14 s15 s16
   obtain ⟨s1,s2,s3,s4,o4,s14,s15⟩:=H0
   obtain ⟨s10,o10,s11,o11,s16⟩:=H1
   simp
   refine W_dregA ?_
   simp [s10,o10,s11,o11,s3,A.cells,PL.cells]
   refine CallA.fn (fn1161 (plAt b base l i) a.dom.length (by show 0 + a.dom.length ≤ 1000000000;omega)) (by simp [plm,PL.cells,ib]) (by simp) (keys_pl _) ?_
   simp [plm,PL.cells,s10,o10,s11,o11,s3,A.cells]
   refine CallA.fn hind (by simp [plm,PL.cells,ib,tms,hk]) (by simp) rfl ?_
   rw [e,Bool.true_and] at hag
   rw [← hag]
   cases hc:argG b base l c i a with
   | false=>
    simp [bb]
    refine realC_n ?_
    simp
    exact fin _ hc (by simp [bb])
   | true=>
    simp [bb]
    refine realC_n ?_
    simp [s16,w1]
    exact ⟨m - 1,by omega,i + 1,by omega,go hc,⟨by simp [s1],by simp [s2],by simp [s3],by simp [s4],by simp [o4],by simp [s14],by simp [s15]⟩,by simp⟩
 ·have:i=l.length:=by omega
  subst this
  simp [rowG] at hp
  simp [s15,s16]
  exact hQ _ hp
theorem fn1122 (b:B) (hb:b.Fit) (base:Int) (l:List A) (hl:l.length ≤ 12) (c:Int) (hf:∀ a,a ∈ l → a.Fine b):Fn Tryz.prog 122 [bm b,ib base,ams l,ib c] (bb (rowG b base l c l 0)):=by
 refine fn_of (base:=1122000) ok1122 rfl fun σ h0 hr=>?_
 have s0:σ.sl 0=bm b:=h0 0
 have s1:σ.sl 1=.c (.v (.int .i64 base)):=h0 1
 have s2:σ.sl 2=ams l:=h0 2
 have s3:σ.sl 3=.c (.v (.int .i64 c)):=h0 3
 simp only [bm] at s0
 simp only [ams] at s2
 clear h0 hr
 unfold c1122
 simp [s0,s1,s2,s3,B.cells]
 refine loop1122 b hb base l hl c hf ⟨by simp [s1],by simp [s2],by simp [s3],by simp,by simp [B.cells],by simp,by simp⟩ (by simp) (fun σ' e q=>?_) fun σ' e=>?_
 ·simp [q,r1122,bb,e]
 ·simp [r1122,bb,e]
end Go.Abs

namespace Go.Abs
open Go.Proofs
def sortP (b:B) (base:Int) (s:S):Bool:=rowG b base s.idx 0 s.idx 0 && (!s.dec || clean ⟨b,base,s.idx,0⟩ s.decType)
def conP (b:B) (base:Int) (c:Nat) (x:K):Bool:=
 rowG b base x.args c x.args 0 && indG ⟨b,base,x.args,0⟩ c (sIdx b x.sort) x.idx && (!(sAt b x.sort).dec || clean ⟨b,base,x.args,0⟩ x.dec)
def conL (b:B) (base:Int):List K → Nat → Bool
 | [],_=>true
 | x :: r,c=>conP b base c x && conL b base r (c + 1)
def B.posit (b:B) (base:Int):Int:=
 if b.shape ≠ 0 then b.shape else if base < 0 ∨ 65535 < base then 1 else if b.sorts.all (sortP b base) && conL b base b.cons 0 then 0 else 11
theorem rowA_fine {b:B}:∀ {l:List A} {i:Nat},rowA b l i=true → (∀ a,a ∈ l → a.Ok) → ∀ a,a ∈ l → a.Fine b
 | [],_,_,_,a,h=>by cases h
 | a :: l,i,h,ho,x,hx=>by
  rw [rowA,Bool.and_eq_true] at h
  rcases List.mem_cons.1 hx with rfl | hx
  ·have h1:=h.1
   have key:x.rc=true → badRec b x=false:=fun hrc=>by
    unfold A.right at h1
    rw [hrc] at h1
    simp at h1
    exact h1.1.1
   refine ⟨ho x (by simp),fun hrc=>?_,fun hrc=>?_,fun hrc=>?_⟩ <;>
    (have hk:=key hrc;simp only [badRec,Bool.or_eq_false_iff,decide_eq_false_iff_not] at hk;omega)
  ·exact rowA_fine h.2 (fun a ha=>ho a (by simp [ha])) x hx
theorem rowOk_facts {b:B} {l:List A} (h:rowOk b l=true) (ho:∀ a,a ∈ l → a.Ok):l.length ≤ 12 ∧ ∀ a,a ∈ l → a.Fine b:=by
 unfold rowOk at h
 rw [Bool.and_eq_true] at h
 exact ⟨of_decide_eq_true h.1,rowA_fine h.2 ho⟩
theorem sortsOk_all {b:B}:∀ {l:List S} {k:Nat},sortsOk b l k=true → ∀ s,s ∈ l → rowOk b s.idx=true
 | [],_,_,s,h=>by cases h
 | s :: l,k,h,x,hx=>by
  rw [sortsOk,Bool.and_eq_true] at h
  rcases List.mem_cons.1 hx with rfl | hx
  ·have h1:=h.1
   simp only [S.right,Bool.and_eq_true] at h1
   exact h1.1.1.1
  ·exact sortsOk_all h.2 x hx
structure B.Form (b:B):Prop where
 ns:b.sorts.length ≤ 4
 nc:b.cons.length ≤ 8
 srt:∀ s,s ∈ b.sorts → rowOk b s.idx=true
 con:∀ c,c ∈ b.cons → 0 ≤ c.sort ∧ c.sort < b.sorts.length ∧ rowOk b c.args=true ∧ c.idx.length=(sAt b c.sort).idx.length
theorem shape_form {b:B} (h:b.shape=0):b.Form:=by
 have hb:b.shapeB=true:=by
  unfold B.shape at h
  split at h
  ·assumption
  ·cases h
 simp only [B.shapeB,Bool.and_eq_true,Bool.not_eq_true',Bool.or_eq_false_iff,decide_eq_false_iff_not] at hb
 obtain ⟨⟨⟨⟨⟨h1,h2⟩,h3⟩,h4⟩,h5⟩,h6⟩:=hb
 refine ⟨by omega,by omega,sortsOk_all h5,fun c hc=>?_⟩
 have:=List.all_eq_true.1 h6 c hc
 simp only [K.right,Bool.and_eq_true,Bool.not_eq_true',Bool.or_eq_false_iff,decide_eq_false_iff_not,decide_eq_true_eq] at this
 obtain ⟨⟨⟨⟨⟨q1,q2⟩,q3⟩,q4⟩,q5⟩,q6⟩:=this
 exact ⟨by omega,by omega,q3,q4⟩
theorem B.Form.fit {b:B} (h:b.Form):b.Fit:=by
 refine ⟨fun s hs=>?_,fun c hc=>?_⟩
 ·have:=h.srt s hs
  unfold rowOk at this
  rw [Bool.and_eq_true] at this
  exact of_decide_eq_true this.1
 ·have:=(h.con c hc).2.2.1
  unfold rowOk at this
  rw [Bool.and_eq_true] at this
  exact of_decide_eq_true this.1
structure FP (b:B) (base:Int) (σ:St):Prop where
 s1:σ.sl 1=.c (.v (.int .i64 base))
 s2:σ.sl 2=.c (.ref 1092002 (σ.tg 1092002) 0)
 o2:σ.ob 1092002=some (.box 68 b.cells)
theorem loop1092a {σ:St} {Q:SEx → St → Prop} (b:B) (hF:b.Form) (hO:b.Ok) (base:Int) (H:FP b base σ) (s26:σ.sl 26=.c (.sl 6 80 (b.sorts.map S.cells))) (s27:σ.sl 27=.c (.v (.int .i64 b.sorts.length))) (s28:σ.sl 28=.c (.v (.int .i64 (0:Nat))))
  (hR:∀ σ',b.sorts.all (sortP b base)=false → σ'.sl 4=ib 11 → Q .ret σ') (hQ:∀ σ',b.sorts.all (sortP b base)=true → FP b base σ' → Q .normal σ'):W Tryz.prog 1092000 (.loop c1092b0) σ (onBlock 1 Q):=by
 have hfit:=hF.fit
 refine W_loop (fun m σ=>∃ i:Nat,i + m=b.sorts.length ∧ (b.sorts.drop i).all (sortP b base)=b.sorts.all (sortP b base) ∧ FP b base σ ∧ σ.sl 26=.c (.sl 6 80 (b.sorts.map S.cells)) ∧ σ.sl 27=.c (.v (.int .i64 b.sorts.length)) ∧ σ.sl 28=.c (.v (.int .i64 i))) b.sorts.length ⟨0,by simp,by simp,H,s26,s27,s28⟩ ?_
 clear H s26 s27 s28 σ
 rintro m σ ⟨i,hm,hp,⟨s1,s2,o2⟩,s26,s27,s28⟩
 unfold c1092b0
 by_cases hi:i < b.sorts.length
 ·have hn:=hF.ns
  have w1:=wrap_succ (i:=i) (by omega)
  obtain ⟨s,hs⟩:=at_of hi
  obtain ⟨_,hs2⟩:=getE hs
  have hsm:=List.mem_of_getElem? hs
  have hso:=hO.sorts s hsm
  obtain ⟨h12,hfine⟩:=rowOk_facts (hF.srt s hsm) hso.idx
  rw [drop_at hs,List.all_cons] at hp
  have fin:∀ σ',sortP b base s=false → σ'.sl 4=ib 11 → Q .ret σ':=fun σ' hb q=>hR σ' (by rw [hb] at hp;simpa using hp.symm) q
  have go:sortP b base s=true → (b.sorts.drop (i + 1)).all (sortP b base)=b.sorts.all (sortP b base):=fun hb=>by rw [hb] at hp;simpa using hp
  have hcl:=fnClean (p:=⟨b,base,s.idx,0⟩) hfit hso.dec (by show (0:Nat) ≤ 1000;omega)
  simp [s1,s2,o2,s26,s27,s28,hi,hs2,S.cells,B.cells]
  refine ECall.fn (fn1122 b hfit base s.idx h12 0 hfine) (by simp [bm,B.cells,ib,ams]) (by simp) rfl fun _=>?_
  cases hr:rowG b base s.idx 0 s.idx 0 with
  | false=>
   cases hd:s.dec with
   | false=>
    simp [bb]
    refine GCall.fn (fun _=>hcl) (by simp [plm,PL.cells,tm,cells_eq]) (by simp) rfl fun _=>?_
    simp [bb]
    exact fin _ (by simp [sortP,hr]) (by simp [ib])
   | true=>
    simp [bb]
    refine GCall.fn (fun _=>hcl) (by simp [plm,PL.cells,tm,cells_eq]) (by simp) rfl fun _=>?_
    simp [bb]
    exact fin _ (by simp [sortP,hr]) (by simp [ib])
  | true=>
   cases hd:s.dec with
   | false=>
    simp [bb]
    refine GCall.fn (fun _=>hcl) (by simp [plm,PL.cells,tm,cells_eq]) (by simp) rfl fun _=>?_
    simp [bb,s28,w1]
    exact ⟨m - 1,by omega,i + 1,by omega,go (by simp [sortP,hr,hd]),⟨by simp [s1],by simp [s2],by simp [o2,B.cells]⟩,by simp [s26],by simp [s27],by simp⟩
   | true=>
    simp [bb]
    refine GCall.fn (fun _=>hcl) (by simp [plm,PL.cells,tm,cells_eq]) (by simp) rfl fun _=>?_
    cases hc:clean ⟨b,base,s.idx,0⟩ s.decType with
    | false=>
     simp [bb]
     exact fin _ (by simp [sortP,hr,hd,hc]) (by simp [ib])
    | true=>
     simp [bb,s28,w1]
     exact ⟨m - 1,by omega,i + 1,by omega,go (by simp [sortP,hr,hd,hc]),⟨by simp [s1],by simp [s2],by simp [o2,B.cells]⟩,by simp [s26],by simp [s27],by simp⟩
 ·have:i=b.sorts.length:=by omega
  subst this
  simp at hp
  simp [s26,s27,s28]
  exact hQ _ (by simpa using hp) ⟨by simp [s1],by simp [s2],by simp [o2]⟩
theorem loop1092b {σ:St} {Q:SEx → St → Prop} (b:B) (hF:b.Form) (hO:b.Ok) (base:Int) (H:FP b base σ) (s56:σ.sl 56=.c (.sl 6 96 (b.cons.map K.cells))) (s57:σ.sl 57=.c (.v (.int .i64 b.cons.length))) (s58:σ.sl 58=.c (.v (.int .i64 (0:Nat))))
  (hR:∀ σ',conL b base b.cons 0=false → σ'.sl 4=ib 11 → Q .ret σ') (hQ:∀ σ',conL b base b.cons 0=true → Q .normal σ'):W Tryz.prog 1092000 (.loop c1092b1) σ (onBlock 3 Q):=by
 have hfit:=hF.fit
 refine W_loop (fun m σ=>∃ i:Nat,i + m=b.cons.length ∧ conL b base (b.cons.drop i) i=conL b base b.cons 0 ∧ FP b base σ ∧ σ.sl 56=.c (.sl 6 96 (b.cons.map K.cells)) ∧ σ.sl 57=.c (.v (.int .i64 b.cons.length)) ∧ σ.sl 58=.c (.v (.int .i64 i))) b.cons.length ⟨0,by simp,by simp,H,s56,s57,s58⟩ ?_
 clear H s56 s57 s58 σ
 rintro m σ ⟨i,hm,hp,⟨s1,s2,o2⟩,s56,s57,s58⟩
 unfold c1092b1
 by_cases hi:i < b.cons.length
 ·have hn:=hF.nc
  have w1:=wrap_succ (i:=i) (by omega)
  obtain ⟨x,hx⟩:=at_of hi
  obtain ⟨_,hx2⟩:=getE hx
  have hxm:=List.mem_of_getElem? hx
  have hxo:=hO.cons x hxm
  obtain ⟨q0,q1,q2,q3⟩:=hF.con x hxm
  obtain ⟨h12,hfine⟩:=rowOk_facts q2 hxo.args
  obtain ⟨k,hk⟩:=Int.eq_ofNat_of_zero_le q0
  obtain ⟨s,hs⟩:=at_of (ts:=b.sorts) (i:=k) (by omega)
  obtain ⟨hkl,hs2⟩:=getE hs
  have hsx:sIdx b x.sort=s.idx:=by rw [hk];simp [sIdx,hs]
  have hsa:sAt b x.sort=s:=by rw [hk];simp [sAt,hs]
  rw [hsa] at q3
  rw [drop_at hx,conL] at hp
  have fin:∀ σ',conP b base i x=false → σ'.sl 4=ib 11 → Q .ret σ':=fun σ' hb q=>hR σ' (by rw [hb] at hp;simpa using hp.symm) q
  have go:conP b base i x=true → conL b base (b.cons.drop (i + 1)) (i + 1)=conL b base b.cons 0:=fun hb=>by rw [hb] at hp;simpa using hp
  have hdef:conP b base i x=(rowG b base x.args i x.args 0 && indG ⟨b,base,x.args,0⟩ i s.idx x.idx && (!s.dec || clean ⟨b,base,x.args,0⟩ x.dec)):=by simp only [conP,hsx,hsa]
  have hcl:=fnClean (p:=⟨b,base,x.args,0⟩) hfit hxo.dec (by show (0:Nat) ≤ 1000;omega)
  have hin:=fn1124 ⟨b,base,x.args,0⟩ hfit (by show (0:Nat) ≤ 1000;omega) k s hs i x.idx (by omega) hxo.idx
  have hrw:=fn1122 b hfit base x.args h12 i hfine
  generalize rowG b base x.args i x.args 0=z1 at *
  generalize indG ⟨b,base,x.args,0⟩ i s.idx x.idx=z2 at *
  generalize clean ⟨b,base,x.args,0⟩ x.dec=z3 at *
  simp [s1,s2,o2,s56,s57,s58,hi,hx2,K.cells,B.cells]
  refine ECall.fn hrw (by simp [bm,B.cells,ib,ams]) (by simp) rfl fun _=>?_
  simp [bb]
  refine GCall.fn (fun _=>hin) (by simp [plm,PL.cells,ib,tms,hk]) (by simp) rfl fun _=>?_
  cases z1 with
  | false=>
   cases hd:s.dec <;>
   ·simp [s1,s2,o2,B.cells,bb,hk,hkl,hs2,S.cells,hd]
    refine GCall.fn (fun _=>hcl) (by simp [plm,PL.cells,tm,cells_eq]) (by simp) rfl fun _=>?_
    simp [bb]
    exact fin _ (by rw [hdef];simp) (by simp [ib])
  | true=>
   cases z2 with
   | false=>
    cases hd:s.dec <;>
    ·simp [s1,s2,o2,B.cells,bb,hk,hkl,hs2,S.cells,hd]
     refine GCall.fn (fun _=>hcl) (by simp [plm,PL.cells,tm,cells_eq]) (by simp) rfl fun _=>?_
     simp [bb]
     exact fin _ (by rw [hdef];simp) (by simp [ib])
   | true=>
    cases hd:s.dec with
    | false=>
     simp [s1,s2,o2,B.cells,bb,hk,hkl,hs2,S.cells,hd]
     refine GCall.fn (fun _=>hcl) (by simp [plm,PL.cells,tm,cells_eq]) (by simp) rfl fun _=>?_
     simp [bb,s58,w1]
     exact ⟨m - 1,by omega,i + 1,by omega,go (by rw [hdef,hd];simp),⟨by simp [s1],by simp [s2],by simp [o2,B.cells]⟩,by simp [s56],by simp [s57],by simp⟩
    | true=>
     simp [s1,s2,o2,B.cells,bb,hk,hkl,hs2,S.cells,hd]
     refine GCall.fn (fun _=>hcl) (by simp [plm,PL.cells,tm,cells_eq]) (by simp) rfl fun _=>?_
     cases z3 with
     | false=>
      simp [bb]
      exact fin _ (by rw [hdef,hd];simp) (by simp [ib])
     | true=>
      simp [bb,s58,w1]
      exact ⟨m - 1,by omega,i + 1,by omega,go (by rw [hdef,hd];simp),⟨by simp [s1],by simp [s2],by simp [o2,B.cells]⟩,by simp [s56],by simp [s57],by simp⟩
 ·have:i=b.cons.length:=by omega
  subst this
  simp [conL] at hp
  simp [s56,s57,s58]
  exact hQ _ hp
theorem fn1092 (b:B) (base:Int) (hO:b.Ok):Fn Tryz.prog 92 [bm b,ib base] (ib (b.posit base)):=by
 refine fn_of (base:=1092000) ok1092 rfl fun σ h0 hr=>?_
 have s0:σ.sl 0=bm b:=h0 0
 have s1:σ.sl 1=.c (.v (.int .i64 base)):=h0 1
 simp only [bm] at s0
 clear h0 hr
 unfold c1092
 simp [s0,s1,B.cells]
 refine ECall.fn (fn1121 b) (by simp [bm,B.cells]) (by simp) rfl fun _=>?_
 by_cases hsh:b.shape=0
 ·have hF:=shape_form hsh
  by_cases c1:base < 0
  ·simp [s1,ib,hsh,c1,r1092,B.posit]
  ·by_cases c2:65535 < base
   ·simp [s1,ib,hsh,c1,c2,r1092,B.posit]
   ·have hdef:b.posit base=if b.sorts.all (sortP b base) && conL b base b.cons 0 then 0 else 11:=by
     unfold B.posit
     rw [if_neg (by simp [hsh]),if_neg (by omega)]
    rw [hdef]
    generalize hz1:b.sorts.all (sortP b base)=z1
    generalize hz2:conL b base b.cons 0=z2
    simp [s1,ib,hsh,c1,c2]
    refine loop1092a b hF hO base ⟨by simp [s1],by simp,by simp [B.cells]⟩ (by simp) (by simp) (by simp) (fun σ' e q=>?_) fun σ' e H=>?_
    ·rw [hz1] at e;subst e
     simp [q,r1092,ib]
    rw [hz1] at e;subst e
    obtain ⟨q1,q2,o2⟩:=H
    simp [q1,q2,o2,B.cells]
    refine loop1092b b hF hO base ⟨by simp [q1],by simp [q2],by simp [o2,B.cells]⟩ (by simp) (by simp) (by simp) (fun σ'' e q=>?_) fun σ'' e=>?_
    ·rw [hz2] at e;subst e
     simp [q,r1092,ib]
    ·rw [hz2] at e;subst e
     simp [r1092,ib]
 ·simp [s1,ib,hsh,r1092,B.posit]
end Go.Abs

namespace Go.Abs
def c1126b0:SCode:=
 .seq (.seq (.reg [m_ 12 4,m_ 13 0,o_ 14 (.len 24 (.t 13)),o_ 15 (.bin .lss (.t 12) (.t 14))]) (.cond (.t 15) (.skip) (.exit 0))) (.seq (.block 1 (.reg [m_ 18 3,m_ 19 0,m_ 20 4,o_ 21 (.iad 3 1 (.t 19) (.t 20)),o_ 22 (.ld1 3 (.t 21)),o_ 23 (.best true [.t 18,.t 22]),m_ 3 23])) (.reg [m_ 16 4,o_ 17 (.bin .add (.t 16) (.k (.int .i64 1))),m_ 4 17]))
def c1126:SCode:=
 .seq (.reg [o_ 2 (.mv (.k (.int .i64 0)))]) (.seq (.seq (.reg [m_ 5 0,o_ 6 (.len 24 (.t 5)),o_ 7 (.bin .lss (.t 6) (.k (.int .i64 1)))]) (.cond (.t 7) (.reg [o_ 8 (.mki 9 (.k (.string ⟨#[115,108,105,99,101,115,46,77,97,120,58,32,101,109,112,116,121,32,108,105,115,116]⟩))),n_ (.pan (.t 8))]) (.skip))) (.seq (.reg [m_ 9 0,o_ 10 (.iad 3 1 (.t 9) (.k (.int .i64 0))),o_ 11 (.ld1 3 (.t 10)),m_ 3 11]) (.seq (.seq (.reg [o_ 4 (.mv (.k (.int .i64 1)))]) (.block 0 (.loop c1126b0))) (.seq (.reg [m_ 24 3,m_ 2 24]) (.ret)))))
def r1126:List RR:=[.t 2]
theorem ok1126:okFn Go.Proofs.Tryz.prog 126 25 c1126 r1126 1=true:=by kernel_rfl
def c1125b0:SCode:=
 .seq (.reg [o_ 9 (.bin .lss (.t 8) (.t 7))]) (.seq (.cond (.t 9) (.skip) (.exit 0)) (.seq (.block 1 (.seq (.reg [o_ 10 (.iad 126 7 (.t 6) (.t 8)),o_ 11 (.ldn 126 7 (.t 10)),o_ 5 (.alloc 126 [.v (.bool false),.v (.int .i64 0),.v (.int .i64 0),.cap 3 40 [],.cap 3 40 [],.v (.int .i64 0),.cap 3 40 []]),n_ (.stn 126 7 (.t 5) (.t 11))]) (.dreg [0,0,2,6,15,0,32,127,0,256,1023,2047] [m_ 12 3,o_ 13 (.fad 126 1 1 (.t 5)),o_ 14 (.ldn 63 3 (.t 13)),o_ 15 (.lit 63 3 40 [.t 14]),o_ 16 (.app 63 3 40 (.t 12) (.t 15)),o_ 17 (.fad 126 2 4 (.t 5)),o_ 18 (.ld1 61 (.t 17)),o_ 19 (.app 63 3 40 (.t 16) (.t 18)),o_ 20 (.fad 126 4 6 (.t 5)),o_ 21 (.ld1 61 (.t 20)),o_ 22 (.app 63 3 40 (.t 19) (.t 21)),m_ 3 22]))) (.reg [o_ 23 (.bin .add (.t 8) (.k (.int .i64 1))),m_ 8 23])))
def c1125:SCode:=
 .seq (.reg [o_ 2 (.mv (.nil 3 40))]) (.seq (.reg [o_ 3 (.mv (.nil 3 40))]) (.seq (.seq (.reg [m_ 6 0,o_ 7 (.len 102 (.t 6)),o_ 8 (.mv (.k (.int .i64 0)))]) (.block 0 (.loop c1125b0))) (.seq (.reg [m_ 24 3,m_ 2 24]) (.ret))))
def r1125:List RR:=[.t 2]
theorem ok1125:okFn Go.Proofs.Tryz.prog 125 25 c1125 r1125 1=true:=by kernel_rfl
def c1093b0:SCode:=
 .seq (.reg [o_ 15 (.bin .lss (.t 14) (.t 13))]) (.seq (.cond (.t 15) (.skip) (.exit 0)) (.seq (.block 1 (.seq (.reg [o_ 16 (.iad 104 6 (.t 12) (.t 14)),o_ 17 (.ldn 104 6 (.t 16)),o_ 5 (.alloc 104 [.cap 7 104 [],.v (.int .i64 0),.v (.bool false),.v (.int .i64 0),.v (.int .i64 0),.cap 3 40 []]),n_ (.stn 104 6 (.t 5) (.t 17))]) (.dreg [0,0,2,6,15,0,32,127,255,511] [m_ 18 3,o_ 19 (.fad 104 3 3 (.t 5)),o_ 20 (.ldn 63 3 (.t 19)),o_ 21 (.lit 63 3 40 [.t 20]),o_ 22 (.app 63 3 40 (.t 18) (.t 21)),o_ 23 (.fad 104 0 0 (.t 5)),o_ 24 (.ld1 102 (.t 23)),o_ 25 (.call (.f 125) [.t 24]),o_ 26 (.app 63 3 40 (.t 22) (.t 25)),m_ 3 26]))) (.reg [o_ 27 (.bin .add (.t 14) (.k (.int .i64 1))),m_ 14 27])))
def c1093b1:SCode:=
 .seq (.reg [o_ 32 (.bin .lss (.t 31) (.t 30))]) (.seq (.cond (.t 32) (.skip) (.exit 2)) (.seq (.block 3 (.seq (.reg [o_ 33 (.iad 106 6 (.t 29) (.t 31)),o_ 34 (.ldn 106 6 (.t 33)),o_ 7 (.alloc 106 [.v (.int .i64 0),.cap 7 104 [],.cap 3 40 [],.v (.int .i64 0),.v (.int .i64 0),.cap 3 40 []]),n_ (.stn 106 6 (.t 7) (.t 34))]) (.dreg [0,0,2,6,15,0,32,127,0,256,1023,2047,4095] [m_ 35 3,o_ 36 (.fad 106 3 3 (.t 7)),o_ 37 (.ldn 63 3 (.t 36)),o_ 38 (.lit 63 3 40 [.t 37]),o_ 39 (.app 63 3 40 (.t 35) (.t 38)),o_ 40 (.fad 106 2 2 (.t 7)),o_ 41 (.ld1 61 (.t 40)),o_ 42 (.app 63 3 40 (.t 39) (.t 41)),o_ 43 (.fad 106 1 1 (.t 7)),o_ 44 (.ld1 102 (.t 43)),o_ 45 (.call (.f 125) [.t 44]),o_ 46 (.app 63 3 40 (.t 42) (.t 45)),m_ 3 46]))) (.reg [o_ 47 (.bin .add (.t 31) (.k (.int .i64 1))),m_ 31 47])))
def c1093b2:SCode:=
 .seq (.reg [o_ 51 (.bin .lss (.t 50) (.t 49))]) (.seq (.cond (.t 51) (.skip) (.exit 4)) (.seq (.block 5 (.seq (.reg [o_ 52 (.iad 63 3 (.t 48) (.t 50)),o_ 53 (.ldn 63 3 (.t 52)),o_ 10 (.alloc 63 [.v (.int .i64 0),.v (.int .i64 0),.cap 3 40 []]),n_ (.stn 63 3 (.t 10) (.t 53))]) (.reg [m_ 54 8,o_ 55 (.ldn 63 3 (.t 10)),o_ 56 (.call (.f 61) [.t 55]),o_ 57 (.lit 3 1 8 [.k (.int .i64 (-1))]),o_ 58 (.app 3 1 8 (.t 56) (.t 57)),o_ 59 (.call (.f 126) [.t 58]),o_ 60 (.best true [.t 54,.t 59]),m_ 8 60]))) (.reg [o_ 61 (.bin .add (.t 50) (.k (.int .i64 1))),m_ 50 61])))
def c1093:SCode:=
 .seq (.reg [o_ 1 (.box 68 (.t 0)),o_ 2 (.mv (.k (.int .i64 0)))]) (.seq (.reg [o_ 3 (.mv (.nil 3 40))]) (.seq (.seq (.reg [o_ 11 (.fad 68 0 0 (.t 1)),o_ 12 (.ld1 65 (.t 11)),o_ 13 (.len 65 (.t 12)),o_ 14 (.mv (.k (.int .i64 0)))]) (.block 0 (.loop c1093b0))) (.seq (.seq (.reg [o_ 28 (.fad 68 1 1 (.t 1)),o_ 29 (.ld1 66 (.t 28)),o_ 30 (.len 66 (.t 29)),o_ 31 (.mv (.k (.int .i64 0)))]) (.block 2 (.loop c1093b1))) (.seq (.reg [o_ 8 (.mv (.k (.int .i64 (-1))))]) (.seq (.seq (.reg [m_ 48 3,o_ 49 (.len 61 (.t 48)),o_ 50 (.mv (.k (.int .i64 0)))]) (.block 4 (.loop c1093b2))) (.seq (.reg [m_ 62 8,m_ 2 62]) (.ret)))))))
def r1093:List RR:=[.t 2]
theorem ok1093:okFn Go.Proofs.Tryz.prog 93 63 c1093 r1093 1=true:=by kernel_rfl
def c1054:SCode:=
 .seq (.reg [o_ 2 (.box 68 (.t 0)),o_ 4 (.mv (.k (.bool false)))]) (.seq (.dreg [0,0,3,7,15,31,63,31,31,383,1023,2047,4095,8191] [o_ 5 (.ldn 68 3 (.t 2)),m_ 6 1,o_ 7 (.call (.f 92) [.t 5,.t 6]),o_ 8 (.bin .eql (.t 7) (.k (.int .i64 0))),m_ 9 8,p_ 10 9 (.ldn 68 3 (.t 2)),p_ 11 9 (.call (.f 93) [.t 10]),pm_ 12 9 1,p_ 13 9 (.ldn 68 3 (.t 2)),p_ 14 9 (.call (.f 94) [.t 13]),p_ 15 9 (.bin .add (.t 12) (.t 14)),p_ 16 9 (.bin .lss (.t 11) (.t 15)),o_ 17 (.pick (.t 9) (.t 16) (.k (.bool false))),m_ 4 17]) (.ret))
def r1054:List RR:=[.t 4]
theorem ok1054:okFn Go.Proofs.Tryz.prog 54 18 c1054 r1054 2=true:=by kernel_rfl
def c1059b0:SCode:=
 .seq (.seq (.reg [m_ 7 3,m_ 8 0,o_ 9 (.len 102 (.t 8)),o_ 10 (.bin .lss (.t 7) (.t 9))]) (.cond (.t 10) (.skip) (.exit 0))) (.seq (.block 1 (.seq (.reg [m_ 13 0,m_ 14 3,o_ 15 (.iad 126 7 (.t 13) (.t 14)),o_ 16 (.fad 126 1 1 (.t 15)),o_ 17 (.ldn 63 3 (.t 16)),o_ 18 (.lit 63 3 40 [.t 17]),o_ 19 (.call (.f 35) [.t 18]),m_ 20 19,qm_ 21 20 0,qm_ 22 20 3,q_ 23 20 (.iad 126 7 (.t 21) (.t 22)),q_ 24 20 (.fad 126 2 4 (.t 23)),q_ 25 20 (.ld1 61 (.t 24)),q_ 26 20 (.call (.f 35) [.t 25]),o_ 27 (.pick (.t 20) (.k (.bool true)) (.t 26)),m_ 28 27,qm_ 29 28 0,qm_ 30 28 3,q_ 31 28 (.iad 126 7 (.t 29) (.t 30)),q_ 32 28 (.fad 126 4 6 (.t 31)),q_ 33 28 (.ld1 61 (.t 32)),q_ 34 28 (.call (.f 35) [.t 33]),o_ 35 (.pick (.t 28) (.k (.bool true)) (.t 34))]) (.cond (.t 35) (.seq (.reg [o_ 2 (.mv (.k (.bool true)))]) (.ret)) (.skip)))) (.reg [m_ 11 3,o_ 12 (.bin .add (.t 11) (.k (.int .i64 1))),m_ 3 12]))
def c1059:SCode:=
 .seq (.reg [o_ 2 (.mv (.k (.bool false)))]) (.seq (.seq (.reg [m_ 4 0,o_ 5 (.len 102 (.t 4)),o_ 6 (.bin .gtr (.t 5) (.k (.int .i64 20)))]) (.cond (.t 6) (.seq (.reg [o_ 2 (.mv (.k (.bool true)))]) (.ret)) (.skip))) (.seq (.seq (.reg [o_ 3 (.mv (.k (.int .i64 0)))]) (.block 0 (.loop c1059b0))) (.seq (.reg [o_ 2 (.mv (.k (.bool false)))]) (.ret))))
def r1059:List RR:=[.t 2]
theorem ok1059:okFn Go.Proofs.Tryz.prog 59 36 c1059 r1059 1=true:=by kernel_rfl
def c1036b0:SCode:=
 .seq (.seq (.reg [m_ 15 3,o_ 16 (.fad 68 0 0 (.t 1)),o_ 17 (.ld1 65 (.t 16)),o_ 18 (.len 65 (.t 17)),o_ 19 (.bin .lss (.t 15) (.t 18))]) (.cond (.t 19) (.skip) (.exit 0))) (.seq (.block 1 (.seq (.reg [o_ 22 (.fad 68 0 0 (.t 1)),o_ 23 (.ld1 65 (.t 22)),m_ 24 3,o_ 25 (.iad 104 6 (.t 23) (.t 24)),o_ 26 (.fad 104 0 0 (.t 25)),o_ 27 (.ld1 102 (.t 26)),o_ 28 (.call (.f 59) [.t 27]),m_ 29 28,q_ 30 29 (.fad 68 0 0 (.t 1)),q_ 31 29 (.ld1 65 (.t 30)),qm_ 32 29 3,q_ 33 29 (.iad 104 6 (.t 31) (.t 32)),q_ 34 29 (.fad 104 3 3 (.t 33)),q_ 35 29 (.ldn 63 3 (.t 34)),q_ 36 29 (.lit 63 3 40 [.t 35]),q_ 37 29 (.call (.f 35) [.t 36]),o_ 38 (.pick (.t 29) (.k (.bool true)) (.t 37))]) (.cond (.t 38) (.seq (.reg [o_ 2 (.mv (.k (.bool true)))]) (.ret)) (.skip)))) (.reg [m_ 20 3,o_ 21 (.bin .add (.t 20) (.k (.int .i64 1))),m_ 3 21]))
def c1036b1:SCode:=
 .seq (.seq (.reg [m_ 39 4,o_ 40 (.fad 68 1 1 (.t 1)),o_ 41 (.ld1 66 (.t 40)),o_ 42 (.len 66 (.t 41)),o_ 43 (.bin .lss (.t 39) (.t 42))]) (.cond (.t 43) (.skip) (.exit 2))) (.seq (.block 3 (.seq (.reg [o_ 46 (.fad 68 1 1 (.t 1)),o_ 47 (.ld1 66 (.t 46)),m_ 48 4,o_ 49 (.iad 106 6 (.t 47) (.t 48)),o_ 50 (.fad 106 1 1 (.t 49)),o_ 51 (.ld1 102 (.t 50)),o_ 52 (.call (.f 59) [.t 51]),m_ 53 52,q_ 54 53 (.fad 68 1 1 (.t 1)),q_ 55 53 (.ld1 66 (.t 54)),qm_ 56 53 4,q_ 57 53 (.iad 106 6 (.t 55) (.t 56)),q_ 58 53 (.fad 106 2 2 (.t 57)),q_ 59 53 (.ld1 61 (.t 58)),q_ 60 53 (.call (.f 35) [.t 59]),o_ 61 (.pick (.t 53) (.k (.bool true)) (.t 60)),m_ 62 61,q_ 63 62 (.fad 68 1 1 (.t 1)),q_ 64 62 (.ld1 66 (.t 63)),qm_ 65 62 4,q_ 66 62 (.iad 106 6 (.t 64) (.t 65)),q_ 67 62 (.fad 106 3 3 (.t 66)),q_ 68 62 (.ldn 63 3 (.t 67)),q_ 69 62 (.lit 63 3 40 [.t 68]),q_ 70 62 (.call (.f 35) [.t 69]),
 o_ 71 (.pick (.t 62) (.k (.bool true)) (.t 70))]) (.cond (.t 71) (.seq (.reg [o_ 2 (.mv (.k (.bool true)))]) (.ret)) (.skip)))) (.reg [m_ 44 4,o_ 45 (.bin .add (.t 44) (.k (.int .i64 1))),m_ 4 45]))
def c1036:SCode:=
 .seq (.reg [o_ 1 (.box 68 (.t 0)),o_ 2 (.mv (.k (.bool false)))]) (.seq (.seq (.reg [o_ 5 (.fad 68 0 0 (.t 1)),o_ 6 (.ld1 65 (.t 5)),o_ 7 (.len 65 (.t 6)),o_ 8 (.bin .gtr (.t 7) (.k (.int .i64 10))),m_ 9 8,q_ 10 9 (.fad 68 1 1 (.t 1)),q_ 11 9 (.ld1 66 (.t 10)),q_ 12 9 (.len 66 (.t 11)),q_ 13 9 (.bin .gtr (.t 12) (.k (.int .i64 20))),o_ 14 (.pick (.t 9) (.k (.bool true)) (.t 13))]) (.cond (.t 14) (.seq (.reg [o_ 2 (.mv (.k (.bool true)))]) (.ret)) (.skip))) (.seq (.seq (.reg [o_ 3 (.mv (.k (.int .i64 0)))]) (.block 0 (.loop c1036b0))) (.seq (.seq (.reg [o_ 4 (.mv (.k (.int .i64 0)))]) (.block 2 (.loop c1036b1))) (.seq (.reg [o_ 2 (.mv (.k (.bool false)))]) (.ret)))))
def r1036:List RR:=[.t 2]
theorem ok1036:okFn Go.Proofs.Tryz.prog 36 72 c1036 r1036 1=true:=by kernel_rfl
def c1016b0:SCode:=
 .seq (.seq (.reg [m_ 8 4,m_ 9 0,o_ 10 (.len 37 (.t 9)),o_ 11 (.bin .lss (.t 8) (.t 10))]) (.cond (.t 11) (.skip) (.exit 0))) (.seq (.block 1 (.seq (.seq (.dreg [0,0,3,7,15,0,0,96,224,480,1023,2047,4095,8191,8191,32767,65535,131071,262143,524287] [m_ 14 0,m_ 15 4,o_ 16 (.iad 70 12 (.t 14) (.t 15)),o_ 17 (.fad 70 1 1 (.t 16)),o_ 18 (.ldn 63 3 (.t 17)),m_ 19 0,m_ 20 4,o_ 21 (.iad 70 12 (.t 19) (.t 20)),o_ 22 (.fad 70 2 4 (.t 21)),o_ 23 (.ldn 63 3 (.t 22)),o_ 24 (.lit 63 3 40 [.t 18,.t 23]),o_ 25 (.call (.f 35) [.t 24]),m_ 26 25,qm_ 27 26 0,qm_ 28 26 4,q_ 29 26 (.iad 70 12 (.t 27) (.t 28)),q_ 30 26 (.fad 70 5 9 (.t 29)),q_ 31 26 (.ldn 68 3 (.t 30)),q_ 32 26 (.call (.f 36) [.t 31]),o_ 33 (.pick (.t 26) (.k (.bool true)) (.t 32))]) (.cond (.t 33) (.seq (.reg [o_ 2 (.mv (.k (.bool true)))]) (.ret)) (.skip)))
 (.dreg [0,0,0,6,14,30,62,127,0,0,768,1792,3840,8062,16383,32767] [m_ 34 3,m_ 35 0,m_ 36 4,o_ 37 (.iad 70 12 (.t 35) (.t 36)),o_ 38 (.fad 70 1 1 (.t 37)),o_ 39 (.ldn 63 3 (.t 38)),o_ 40 (.call (.f 37) [.t 39]),o_ 41 (.bin .add (.t 34) (.t 40)),m_ 42 0,m_ 43 4,o_ 44 (.iad 70 12 (.t 42) (.t 43)),o_ 45 (.fad 70 2 4 (.t 44)),o_ 46 (.ldn 63 3 (.t 45)),o_ 47 (.call (.f 37) [.t 46]),o_ 48 (.bin .add (.t 41) (.t 47)),m_ 3 48]))) (.reg [m_ 12 4,o_ 13 (.bin .add (.t 12) (.k (.int .i64 1))),m_ 4 13]))
def c1016:SCode:=
 .seq (.reg [o_ 2 (.mv (.k (.bool false)))]) (.seq (.seq (.reg [m_ 5 0,o_ 6 (.len 37 (.t 5)),o_ 7 (.bin .gtr (.t 6) (.k (.int .i64 220)))]) (.cond (.t 7) (.seq (.reg [o_ 2 (.mv (.k (.bool true)))]) (.ret)) (.skip))) (.seq (.reg [o_ 3 (.mv (.k (.int .i64 0)))]) (.seq (.seq (.reg [o_ 4 (.mv (.k (.int .i64 0)))]) (.block 0 (.loop c1016b0))) (.seq (.reg [m_ 49 3,o_ 50 (.bin .gtr (.t 49) (.k (.int .i64 20000))),m_ 2 50]) (.ret)))))
def r1016:List RR:=[.t 2]
theorem ok1016:okFn Go.Proofs.Tryz.prog 16 51 c1016 r1016 1=true:=by kernel_rfl
def c1021:SCode:=
 .seq (.reg [o_ 4 (.mv (.nil 1 8)),o_ 5 (.mv (.k (.int .i64 0)))]) (.seq (.reg [m_ 7 0,o_ 8 (.call (.f 27) [.t 7]),m_ 6 8]) (.seq (.block 0 (.seq (.reg [m_ 10 6,o_ 11 (.bin .neq (.t 10) (.k (.int .i64 0))),m_ 9 11]) (.cond (.t 9) (.seq (.reg [m_ 12 6,o_ 4 (.mv (.nil 1 8)),m_ 5 12]) (.ret)) (.seq (.reg [m_ 14 1,o_ 15 (.bin .lss (.t 14) (.k (.int .i64 0))),m_ 16 15,qm_ 17 16 1,qm_ 18 16 0,q_ 19 16 (.len 37 (.t 18)),q_ 20 16 (.bin .geq (.t 17) (.t 19)),o_ 21 (.pick (.t 16) (.k (.bool true)) (.t 20)),m_ 13 21]) (.cond (.t 13) (.seq (.reg [o_ 4 (.mv (.nil 1 8)),o_ 5 (.mv (.k (.int .i64 14)))]) (.ret)) (.skip)))))) (.seq (.reg [m_ 22 0,m_ 23 1,o_ 24 (.call (.f 41) [.t 22,.t 23]),m_ 4 24,o_ 5 (.mv (.k (.int .i64 0)))]) (.ret))))
def r1021:List RR:=[.t 4,.t 5]
theorem ok1021:okFn Go.Proofs.Tryz.prog 21 25 c1021 r1021 2=true:=by kernel_rfl
end Go.Abs

namespace Go.Abs
def IsHeapN (n:Nat) (l:List Int):Prop:=∀ k,0 < k → k < n → l[(k - 1) / 2]! ≤ l[k]!
theorem swp_get (l:List Int) {i j:Nat} (hi:i < l.length) (hj:j < l.length) (k:Nat):(swp l i j)[k]! = if k=j then l[i]! else if k=i then l[j]! else l[k]!:=by
 simp only [swp,List.getElem!_eq_getElem?_getD,List.getElem?_set,List.length_set]
 by_cases h1:k=j
 ·subst h1;simp [hj]
 ·by_cases h2:k=i
  ·subst h2;simp [hi,h1,Ne.symm h1]
  ·simp [h1,h2,Ne.symm h1,Ne.symm h2]
theorem swp_perm (l:List Int) {i j:Nat} (hi:i < l.length) (hj:j < l.length):(swp l i j).Perm l:=by
 have:((l.set i l[j]).set j l[i]).Perm l:=List.set_set_perm hi hj
 simpa [swp,hi,hj] using this
theorem upL_perm (l:List Int) (j:Nat) (hj:j < l.length):(upL l j).Perm l:=by
 induction j using Nat.strongRecOn generalizing l with
 | ind j ih=>
  rw [upL]
  split
  ·exact .refl _
  ·split
   ·exact (ih _ (by omega) _ (by simp;omega)).trans (swp_perm l (by omega) hj)
   ·exact .refl _
theorem upL_heap (l:List Int) (j:Nat) (hj:j < l.length) (h1:∀ k,0 < k → k < l.length → k ≠ j → l[(k - 1) / 2]! ≤ l[k]!)
  (h2:0 < j → ∀ k,0 < k → k < l.length → (k - 1) / 2=j → l[(j - 1) / 2]! ≤ l[k]!):IsHeapN l.length (upL l j):=by
 induction j using Nat.strongRecOn generalizing l with
 | ind j ih=>
  rw [upL]
  split
  ·intro k h0 hk
   exact h1 k h0 hk (by omega)
  ·rename_i hj0
   obtain ⟨i,hi⟩:∃ i,i=(j - 1) / 2:=⟨_,rfl⟩
   rw [← hi]
   split
   ·rename_i hlt
    have hij:i < j:=by omega
    have g:=swp_get l (i:=i) (j:=j) (by omega) hj
    have:=ih i hij (swp l i j) (by simp;omega) (fun k hk0 hk hki=>?_) (fun hi0 k hk0 hk hki=>?_)
    ·simpa using this
    ·simp only [swp_length] at hk
     rw [g,g]
     have hp:(k - 1) / 2 < k:=by omega
     by_cases hkj:k=j
     ·subst hkj
      rw [← hi]
      rw [if_neg (by omega),if_pos rfl,if_pos rfl]
      omega
     ·rw [if_neg hkj,if_neg hki]
      by_cases hpj:(k - 1) / 2=j
      ·rw [if_pos hpj]
       have:=h2 (by omega) k hk0 hk hpj
       rw [hi];exact this
      ·rw [if_neg hpj]
       by_cases hpi:(k - 1) / 2=i
       ·rw [if_pos hpi]
        have:=h1 k hk0 hk hkj
        rw [hpi] at this
        omega
       ·rw [if_neg hpi]
        exact h1 k hk0 hk hkj
    ·simp only [swp_length] at hk
     have hii:=h1 i hi0 (by omega) (by omega)
     rw [g,g]
     rw [if_neg (by omega),if_neg (by omega)]
     by_cases hkj:k=j
     ·subst hkj
      rw [if_pos rfl];exact hii
     ·rw [if_neg hkj,if_neg (by omega)]
      have:=h1 k hk0 hk hkj
      rw [hki] at this
      omega
   ·rename_i hge
    intro k hk0 hk
    by_cases hkj:k=j
    ·subst hkj;rw [← hi];omega
    ·exact h1 k hk0 hk hkj
theorem push_perm (l:List Int) (n:Int):(pushL l n).Perm (l ++ [n]):=upL_perm _ _ (by simp)
theorem push_heap {l:List Int} (n:Int) (h:IsHeapN l.length l):IsHeapN (pushL l n).length (pushL l n):=by
 have hg:∀ k,k < l.length → (l ++ [n])[k]! = l[k]!:=fun k hk=>by
  simp only [List.getElem!_eq_getElem?_getD,List.getElem?_append_left hk]
 have:=upL_heap (l ++ [n]) l.length (by simp) (fun k hk0 hk hkl=>?_) (fun h0 k hk0 hk hkl=>?_)
 ·rw [show (pushL l n).length=(l ++ [n]).length from upL_length _ _];exact this
 ·simp at hk
  rw [hg _ (by omega),hg _ (by omega)]
  exact h k hk0 (by omega)
 ·simp at hk;omega
theorem downL_perm (n:Nat) (l:List Int) (i:Nat) (hn:n ≤ l.length):(downL n l i).1.Perm l:=by
 induction h:n - i using Nat.strongRecOn generalizing l i with
 | ind m ih=>
  rw [downL]
  split
  ·simp only
   obtain ⟨j,ej⟩:∃ j,j=if 2 * i + 2 < n ∧ l[2 * i + 2]! < l[2 * i + 1]! then 2 * i + 2 else 2 * i + 1:=⟨_,rfl⟩
   rw [← ej]
   have hj:i < j ∧ j < n:=by rw [ej];split <;> omega
   split
   ·exact (ih (n - j) (by omega) _ _ (by simpa using hn) rfl).trans (swp_perm l (by omega) (by omega))
   ·exact .refl _
  ·exact .refl _
theorem downL_keep (n:Nat) (l:List Int) (i:Nat) (hn:n ≤ l.length) (k:Nat) (hk:n ≤ k):(downL n l i).1[k]! = l[k]!:=by
 induction h:n - i using Nat.strongRecOn generalizing l i with
 | ind m ih=>
  rw [downL]
  split
  ·simp only
   obtain ⟨j,ej⟩:∃ j,j=if 2 * i + 2 < n ∧ l[2 * i + 2]! < l[2 * i + 1]! then 2 * i + 2 else 2 * i + 1:=⟨_,rfl⟩
   rw [← ej]
   have hj:i < j ∧ j < n:=by rw [ej];split <;> omega
   split
   ·rw [ih (n - j) (by omega) _ _ (by simpa using hn) rfl,swp_get l (by omega) (by omega),if_neg (by omega),if_neg (by omega)]
   ·rfl
  ·rfl
theorem downL_heap (n:Nat) (l:List Int) (i:Nat) (hn:n ≤ l.length) (h1:∀ k,0 < k → k < n → (k - 1) / 2 ≠ i → l[(k - 1) / 2]! ≤ l[k]!)
  (h2:0 < i → ∀ k,0 < k → k < n → (k - 1) / 2=i → l[(i - 1) / 2]! ≤ l[k]!):IsHeapN n (downL n l i).1:=by
 induction h:n - i using Nat.strongRecOn generalizing l i with
 | ind m ih=>
  rw [downL]
  split
  ·rename_i hc
   simp only
   obtain ⟨j,ej⟩:∃ j,j=if 2 * i + 2 < n ∧ l[2 * i + 2]! < l[2 * i + 1]! then 2 * i + 2 else 2 * i + 1:=⟨_,rfl⟩
   rw [← ej]
   have hj:i < j ∧ j < n ∧ (j - 1) / 2=i:=by rw [ej];split <;> omega
   -- the lesser child
   have hmin:∀ k,0 < k → k < n → (k - 1) / 2=i → l[j]! ≤ l[k]!:=fun k hk0 hk hki=>by
    have:k=2 * i + 1 ∨ k=2 * i + 2:=by omega
    rw [ej]
    split
    ·rename_i hh
     rcases this with rfl | rfl
     ·omega
     ·omega
    ·rename_i hh
     rcases this with rfl | rfl
     ·omega
     ·have:=fun h=>hh ⟨hk,h⟩
      omega
   split
   ·rename_i hlt
    have g:=swp_get l (i:=i) (j:=j) (by omega) (by omega)
    refine ih (n - j) (by omega) _ _ (by simpa using hn) (fun k hk0 hk hkj=>?_) (fun hj0 k hk0 hk hkj=>?_) rfl
    ·rw [g,g,if_neg hkj]
     by_cases hki:(k - 1) / 2=i
     ·rw [if_pos hki]
      by_cases e:k=j
      ·rw [if_pos e];omega
      ·rw [if_neg e,if_neg (by omega)];exact hmin k hk0 hk hki
     ·rw [if_neg hki]
      by_cases e:k=j
      ·exfalso;subst e;exact hki hj.2.2
      ·rw [if_neg e]
       by_cases e2:k=i
       ·subst e2
        rw [if_pos rfl]
        exact h2 hk0 j (by omega) hj.2.1 hj.2.2
       ·rw [if_neg e2];exact h1 k hk0 hk hki
    ·rw [hj.2.2]
     rw [g,g,if_neg (by omega),if_pos rfl,if_neg (by omega),if_neg (by omega)]
     have:=h1 k hk0 hk (by omega)
     rw [hkj] at this
     exact this
   ·rename_i hge
    intro k hk0 hk
    by_cases hki:(k - 1) / 2=i
    ·have:=hmin k hk0 hk hki
     show l[(k - 1) / 2]! ≤ l[k]!
     rw [hki]
     omega
    ·exact h1 k hk0 hk hki
  ·rename_i hc
   intro k hk0 hk
   exact h1 k hk0 hk (by omega)
theorem heap_min {n:Nat} {l:List Int} (h:IsHeapN n l):∀ k,k < n → l[0]! ≤ l[k]!:=by
 intro k
 induction k using Nat.strongRecOn with
 | ind k ih=>
  intro hk
  by_cases h0:k=0
  ·subst h0;omega
  ·have:=h k (by omega) hk
   have:=ih ((k - 1) / 2) (by omega) (by omega)
   omega
theorem get_dropLast {l:List Int} {k:Nat} (h:k < l.length - 1):l.dropLast[k]! = l[k]!:=by
 simp only [List.getElem!_eq_getElem?_getD]
 rw [List.getElem?_dropLast,if_pos h]
theorem pop_spec {l:List Int} (h0:0 < l.length) (h:IsHeapN l.length l) :
  (popL l)[l.length - 1]! = l[0]! ∧ (∀ x,x ∈ l → l[0]! ≤ x) ∧ l.Perm (l[0]! :: (popL l).dropLast) ∧ IsHeapN (popL l).dropLast.length (popL l).dropLast:=by
 have e1:(popL l)[l.length - 1]! = l[0]!:=by
  rw [popL,downL_keep _ _ _ (by simp) _ (Nat.le_refl _),swp_get l h0 (by omega),if_pos rfl]
 refine ⟨e1,fun x hx=>?_,?_,?_⟩
 ·obtain ⟨k,hk,rfl⟩:=List.getElem_of_mem hx
  have:=heap_min h k hk
  rwa [getElem!_pos l k hk] at this
 ·have hp:(popL l).Perm l:=(downL_perm _ _ _ (by simp)).trans (swp_perm l h0 (by omega))
  have hs:=last_of (l:=popL l) (by rw [popL_length];exact h0)
  rw [popL_length,e1] at hs
  have:((popL l).dropLast ++ [l[0]!]).Perm l:=by rw [← hs];exact hp
  exact this.symm.trans List.perm_append_comm
 ·have hd:IsHeapN (l.length - 1) (popL l):=by
   refine downL_heap _ _ _ (by simp) (fun k hk0 hk hk2=>?_) (fun h=>absurd h (by omega))
   rw [swp_get l h0 (by omega),swp_get l h0 (by omega),if_neg (by omega),if_neg (by omega),if_neg (by omega),if_neg (by omega)]
   exact h k hk0 (by omega)
  intro k hk0 hk
  simp [popL_length] at hk
  rw [get_dropLast (by rw [popL_length];omega),get_dropLast (by rw [popL_length];omega)]
  exact hd k hk0 hk
end Go.Abs

namespace Go.Abs
def nums (n:Nat):List Int:=(List.range n).map fun (i:Nat)=>(i:Int)
theorem mem_nums {n:Nat} {k:Int}:k ∈ nums n ↔ 0 ≤ k ∧ k < n:=by
 simp only [nums,List.mem_map,List.mem_range]
 constructor
 ·rintro ⟨i,hi,rfl⟩;omega
 ·rintro ⟨h1,h2⟩;exact ⟨k.toNat,by omega,by omega⟩
def pre (E:List Edge2) (out:List Int) (k:Int):Nat:=E.countP fun p=>p.2 == k && !out.contains p.1
def rows (E:List Edge2) (k:Int):List Int:=(E.filter fun p=>p.1 == k).map (·.2)
def nextG (n:Nat) (E:List Edge2) (out:List Int):Option Int:=(nums n).find? fun k=>!out.contains k && pre E out k == 0
def greedy (n:Nat) (E:List Edge2):Nat → List Int → List Int
 | 0,out=>out
 | f + 1,out=>match nextG n E out with
  | none=>out
  | some k=>greedy n E f (out ++ [k])
def wrongE (n:Int) (E:List Edge2):Bool:=decide (n < 0) || decide (200 < n) || decide (4000 < E.length) || E.any (badE n)
def ord (n:Int) (E:List Edge2):List Int × Int:=
 if wrongE n E then ([],1) else
  if (greedy n.toNat E n.toNat []).length < n.toNat then ([],12) else (greedy n.toNat E n.toNat [],0)
theorem nodup_le:∀ {n:Nat} {l:List Int},l.Nodup → (∀ x,x ∈ l → 0 ≤ x ∧ x < n) → l.length ≤ n
 | 0,l,_,h=>by
  cases l with
  | nil=>simp
  | cons x l=>have:=h x (by simp);omega
 | n + 1,l,hn,h=>by
  have h1:=nodup_le (n:=n) (l:=l.erase (n:Int)) (hn.erase _) fun x hx=>by
   have:=(hn.mem_erase_iff).1 hx
   have:=h x this.2
   have:x ≠ n:=‹x ≠ _ ∧ _›.1
   omega
  have h2:=List.length_erase_le (l:=l) (a:=(n:Int))
  by_cases hm:(n:Int) ∈ l
  ·rw [List.length_erase_of_mem hm] at h1;omega
  ·rw [List.erase_of_not_mem hm] at h1;omega
theorem pre_step (E:List Edge2) (out:List Int) (i k:Int) (hi:i ∉ out):pre E out k=pre E (out ++ [i]) k + (rows E i).count k:=by
 induction E with
 | nil=>simp [pre,rows]
 | cons p E ih=>
  obtain ⟨a,b⟩:=p
  simp only [pre,rows,List.countP_cons,List.filter_cons] at ih ⊢
  by_cases ha:a=i
  ·subst ha
   by_cases hb:b=k
   ·subst hb;simp [hi] at ih ⊢;omega
   ·have hb':(b == k)=false:=by simpa using hb
    simp [hi,hb'] at ih ⊢;rw [ih,List.count_cons_of_ne (by simpa using hb)]
  ·have ha':(a == i)=false:=by simpa using ha
   simp [ha',ha] at ih ⊢
   omega
theorem nextG_some {n:Nat} {E:List Edge2} {out:List Int} {k:Int} (h0:0 ≤ k) (hn:k < n) (hk:k ∉ out) (hp:pre E out k=0) (hl:∀ j:Int,0 ≤ j → j < k → j ∉ out → pre E out j ≠ 0):nextG n E out=some k:=by
 obtain ⟨m,rfl⟩:=Int.eq_ofNat_of_zero_le h0
 unfold nextG
 rw [List.find?_eq_some_iff_append]
 refine ⟨by simp [hk,hp],nums m,(List.range' (m + 1) (n - m - 1)).map fun (i:Nat)=>(i:Int),?_,fun j hj=>?_⟩
 ·have:List.range n=List.range m ++ m :: List.range' (m + 1) (n - m - 1):=by
   have h1:n=m + (1 + (n - m - 1)):=by omega
   conv=>lhs;rw [h1]
   rw [List.range_eq_range',← List.range'_append_1,List.range_eq_range',Nat.zero_add,Nat.add_comm 1,List.range'_succ]
  rw [nums,this];simp [nums]
 ·obtain ⟨j0,j1⟩:=mem_nums.1 hj
  by_cases hjo:j ∈ out
  ·simp [hjo]
  ·have:=hl j j0 j1 hjo
   simp [hjo,this]
theorem nextG_none {n:Nat} {E:List Edge2} {out:List Int} (hl:∀ j:Int,0 ≤ j → j < n → j ∉ out → pre E out j ≠ 0):nextG n E out=none:=by
 unfold nextG
 rw [List.find?_eq_none]
 intro j hj
 obtain ⟨j0,j1⟩:=mem_nums.1 hj
 by_cases hjo:j ∈ out
 ·simp [hjo]
 ·have:=hl j j0 j1 hjo
  simp [hjo,this]
structure HI (n:Nat) (out:List Int) (cnt:Int → Nat) (h:List Int):Prop where
 heap:IsHeapN h.length h
 nodup:h.Nodup
 mem:∀ k,k ∈ h ↔ 0 ≤ k ∧ k < n ∧ k ∉ out ∧ cnt k=0
theorem HI.len {n:Nat} {out:List Int} {cnt:Int → Nat} {h:List Int} (H:HI n out cnt h):h.length ≤ n:=nodup_le H.nodup fun x hx=>by have:=(H.mem x).1 hx;omega
theorem HI.push {n:Nat} {out:List Int} {cnt cnt':Int → Nat} {h:List Int} (H:HI n out cnt h) {k:Int} (k0:0 ≤ k) (k1:k < n) (ko:k ∉ out) (kc:cnt k ≠ 0) (kc':cnt' k=0) (ho:∀ j,j ≠ k → cnt' j=cnt j):HI n out cnt' (pushL h k):=by
 have hp:=push_perm h k
 refine ⟨push_heap k H.heap,?_,fun j=>?_⟩
 ·rw [hp.nodup_iff,List.nodup_append]
  refine ⟨H.nodup,by simp,fun a ha b hb=>?_⟩
  simp at hb;subst hb
  intro e;subst e
  exact kc ((H.mem a).1 ha).2.2.2
 ·rw [hp.mem_iff,List.mem_append,List.mem_singleton,H.mem]
  by_cases e:j=k
  ·subst e;simp [k0,k1,ko,kc']
  ·simp [e,ho j e]
theorem HI.less {n:Nat} {out:List Int} {cnt cnt':Int → Nat} {h:List Int} (H:HI n out cnt h) {k:Int} (kc:cnt k ≠ 0) (kc':cnt' k ≠ 0) (ho:∀ j,j ≠ k → cnt' j=cnt j):HI n out cnt' h:=
 ⟨H.heap,H.nodup,fun j=>by
  rw [H.mem]
  by_cases e:j=k
  ·subst e;simp [kc,kc']
  ·rw [ho j e]⟩
theorem HI.pop {n:Nat} {out:List Int} {E:List Edge2} {h:List Int} (H:HI n out (pre E out) h) (h0:0 < h.length) (hz:∀ x,x ∈ out → pre E out x=0) :
  nextG n E out=some (popL h)[h.length - 1]! ∧ 0 ≤ (popL h)[h.length - 1]! ∧ (popL h)[h.length - 1]! < n ∧ (popL h)[h.length - 1]! ∉ out ∧
  HI n (out ++ [(popL h)[h.length - 1]!]) (fun k=>pre E (out ++ [(popL h)[h.length - 1]!]) k + (rows E (popL h)[h.length - 1]!).count k) (popL h).dropLast ∧
  (∀ x,x ∈ out ++ [(popL h)[h.length - 1]!] → pre E (out ++ [(popL h)[h.length - 1]!]) x + (rows E (popL h)[h.length - 1]!).count x=0):=by
 obtain ⟨p1,p2,p3,p4⟩:=pop_spec h0 H.heap
 rw [p1]
 generalize h[0]! = i at *
 have hi:=(H.mem i).1 (p3.mem_iff.2 (by simp))
 have hnd:=p3.nodup_iff.1 H.nodup
 refine ⟨nextG_some hi.1 hi.2.1 hi.2.2.1 hi.2.2.2 fun j j0 j1 jo jp=>?_,hi.1,hi.2.1,hi.2.2.1,⟨p4,(List.nodup_cons.1 hnd).2,fun k=>?_⟩,fun x hx=>?_⟩
 ·have:=p2 j ((H.mem j).2 ⟨j0,by omega,jo,jp⟩);omega
 ·rw [← pre_step E out i k hi.2.2.1]
  have hm:k ∈ h ↔ k=i ∨ k ∈ (popL h).dropLast:=by rw [p3.mem_iff,List.mem_cons]
  by_cases e:k=i
  ·subst e;simp [(List.nodup_cons.1 hnd).1]
  ·have:k ∈ (popL h).dropLast ↔ k ∈ h:=by rw [hm];simp [e]
   rw [this,H.mem];simp [e]
 ·rw [← pre_step E out i x hi.2.2.1]
  rcases List.mem_append.1 hx with h | h
  ·exact hz x h
  ·simp at h;subst h;exact hi.2.2.2
def aL (n:Nat) (cnt:Int → Nat):List Int:=(List.range n).map fun (i:Nat)=>((cnt (i:Int):Nat):Int)
@[simp] theorem aL_length (n:Nat) (cnt:Int → Nat):(aL n cnt).length=n:=by simp [aL]
@[simp] theorem aL_at (n:Nat) (cnt:Int → Nat) (i:Nat) (h:i < (aL n cnt).length):(aL n cnt)[i]=((cnt (i:Int):Nat):Int):=by simp [aL]
theorem aL_set {n:Nat} {cnt cnt':Int → Nat} {i:Nat} {v:Int} (hv:v=((cnt' (i:Int):Nat):Int)) (ho:∀ j:Nat,j ≠ i → cnt' (j:Int)=cnt (j:Int)):(aL n cnt).set i v=aL n cnt':=by
 refine List.ext_getElem (by simp) fun j h1 h2=>?_
 rw [List.getElem_set]
 split
 ·rename_i e;subst e;simp [hv]
 ·rename_i e;simp [ho j (Ne.symm e)]
end Go.Abs

namespace Go.Abs
open Go.Proofs
@[simp] theorem big_ne (k m:Nat) (h:m < 2000000):(2000000 + k=m)=False:=by simp;omega
@[simp] theorem big_ne' (k m:Nat) (h:m < 2000000):(m=2000000 + k)=False:=by simp;omega
theorem putC_one:∀ {l:List Cell} {a:Nat} (h:a < l.length) (y:Cell),putC l a [y]=l.set a y:=by
 intro l a h y
 rw [List.set_eq_take_append_cons_drop,if_pos h]
 simp [putC]
structure Beh (σ:St) (n:Nat) (R:Int → List Int):Prop where
 ex:∃ cs:List Cell,σ.ob 1012038=some (.box 24 cs) ∧ cs.length=n ∧ ∀ k:Nat,k < n → (cs[k]? = some (.cap 1 8 []) ∧ R k=[]) ∨ (cs[k]? = some (.own (2000000 + k) (σ.tg (2000000 + k))) ∧ σ.ob (2000000 + k)=some (.row 3 1 8 (ic (R k))))
theorem Beh.mono {σ σ':St} {n:Nat} {R:Int → List Int} (h:Beh σ n R) (ho:σ'.ob 1012038=σ.ob 1012038) (hk:∀ k,2000000 ≤ k → σ'.ob k=σ.ob k ∧ σ'.tg k=σ.tg k):Beh σ' n R:=by
 obtain ⟨cs,h1,h2,h3⟩:=h.ex
 refine ⟨cs,by rw [ho];exact h1,h2,fun k hkn=>?_⟩
 obtain ⟨q1,q2⟩:=hk (2000000 + k) (by omega)
 rw [q1,q2]
 exact h3 k hkn
structure F0 (n:Nat) (E:List Edge2) (i:Nat) (σ:St):Prop where
 s2:σ.sl 2=.c (.ref 1012002 (σ.tg 1012002) 0)
 o2:σ.ob 1012002=some (nbox n)
 s7:σ.sl 7=.c (.own 1012036 (σ.tg 1012036))
 o7:σ.ob 1012036=some (.mrow 3 1 8 (ic (aL n (pre (E.take i) []))))
 s8:σ.sl 8=.c (.sob 1012038 (σ.tg 1012038) n)
 beh:Beh σ n (rows (E.take i))
 s39:σ.sl 39=.c (.sl 2 16 (ecs E))
 s40:σ.sl 40=.c (.v (.int .i64 E.length))
 s41:σ.sl 41=.c (.v (.int .i64 i))
def w9:List (List Nat):=[[],[],[],[],[],[],[],[],[],[],[],[1012063,1012201],[],[1012038]]
def f9:List (List Nat):=[[1012063,1012201],[1012063,1012201],[1012063,1012201],[],[],[],[],[],[],[],[],[],[],[]]
theorem take_succ' {α:Type} {l:List α} {i:Nat} {x:α} (h:l[i]? = some x):l.take (i + 1)=l.take i ++ [x]:=by rw [List.take_add_one,h];rfl
theorem loop0 {σ:St} {Q:SEx → St → Prop} (n:Nat) (E:List Edge2) (hn:n ≤ 200) (hE:E.length ≤ 4000) (hb:∀ p,p ∈ E → badE n p=false) (h0:F0 n E 0 σ) (hQ:∀ σ',F0 n E E.length σ' → Q .normal σ') :
  W Tryz.prog 1012000 (.loop c1012b0) σ (onBlock 0 Q):=by
 refine W_loop (fun m σ=>∃ i,i + m=E.length ∧ F0 n E i σ) E.length ⟨0,by simp,h0⟩ ?_
 clear h0 σ
 rintro m σ ⟨i,hm,H⟩
 obtain ⟨s2,o2,s7,o7,s8,beh,s39,s40,s41⟩:=H
 unfold c1012b0
 by_cases hi:i < E.length
 ·have w1:=wrap_succ (i:=i) (by omega)
  obtain ⟨p,hp1⟩:=at_of hi
  obtain ⟨_,hp2⟩:=getE hp1
  have hbp:=hb p (List.mem_of_getElem? hp1)
  obtain ⟨pa,pb⟩:=p
  simp [badE] at hbp
  obtain ⟨a,rfl⟩:=Int.eq_ofNat_of_zero_le (a:=pa) (by omega)
  obtain ⟨b,rfl⟩:=Int.eq_ofNat_of_zero_le (a:=pb) (by omega)
  have ha:a < n:=by omega
  have hbn:b < n:=by omega
  have htk:=take_succ' hp1
  obtain ⟨cs,h1,h2,h3⟩:=beh.ex
  have w2:IntKind.wrap .i64 (((pre (E.take i) [] (b:Int):Nat):Int) + 1)=((pre (E.take (i + 1)) [] (b:Int):Nat):Int):=by
   have:pre (E.take i) [] (b:Int) ≤ (E.take i).length:=List.countP_le_length
   have:(E.take i).length ≤ 4000:=by simp;omega
   rw [wrap_id (by omega) (by omega),htk]
   simp [pre,List.countP_append]
  have hset:(aL n (pre (E.take i) [])).set b ((pre (E.take (i + 1)) [] (b:Int):Nat):Int)=aL n (pre (E.take (i + 1)) []):=aL_set rfl fun j hj=>by
   rw [htk];simp [pre,List.countP_append];omega
  simp [s2,o2,s7,o7,s8,s39,s40,s41,hi,hp2,ec,ha,hbn,w2,hset,h1]
  refine W_cut (fun σ'=>σ'.sl 2=.c (.ref 1012002 (σ'.tg 1012002) 0) ∧ σ'.ob 1012002=some (nbox n) ∧ σ'.sl 7=.c (.own 1012036 (σ'.tg 1012036)) ∧ σ'.ob 1012036=some (.mrow 3 1 8 (ic (aL n (pre (E.take (i + 1)) [])))) ∧
    σ'.sl 8=.c (.sob 1012038 (σ'.tg 1012038) n) ∧ σ'.sl 39=.c (.sl 2 16 (ecs E)) ∧ σ'.sl 40=.c (.v (.int .i64 E.length)) ∧ σ'.sl 41=.c (.v (.int .i64 i)) ∧ σ'.sl 10=.c (.ref 1012010 (σ'.tg 1012010) 0) ∧
    σ'.ob 1012010=some (.box 28 [.v (.int .i64 a),.v (.int .i64 b)]) ∧ σ'.ob 1012038=some (.box 24 (cs.set a (.own 1012201 (σ'.tg 1012201)))) ∧ σ'.ob 1012201=some (.row 3 1 8 (ic (rows (E.take i) a))) ∧
    ∀ k:Nat,k < n → k ≠ a → (cs[k]? = some (.cap 1 8 []) ∧ rows (E.take i) k=[]) ∨ (cs[k]? = some (.own (2000000 + k) (σ'.tg (2000000 + k))) ∧ σ'.ob (2000000 + k)=some (.row 3 1 8 (ic (rows (E.take i) k))))) ?_ ?_
  ·rcases h3 a ha with ⟨c1,c2⟩ | ⟨c1,c2⟩
   ·refine W_adb (B:=1012038) (tb:=24) (cs:=cs) (i:=a) (K:=1012201) (ty:=3) (sz:=1) (bs:=8) (es:=[]) (by simp [h1]) c1 (by decide) ?_
    simp [s2,o2,s7,o7,s8,s39,s40,s41,c2,show ic []=[] from rfl]
    exact fun k hk hka=>h3 k hk
   ·refine W_stl (B:=1012038) (tb:=24) (cs:=cs) (i:=a) (k:=2000000 + a) (t:=σ.tg (2000000 + a)) (K:=1012201) (q:=.row 3 1 8 (ic (rows (E.take i) a))) (by simp [h1]) c1 (by simp) (by simp [c2]) rfl (by decide) ?_
    simp [s2,o2,s7,o7,s8,s39,s40,s41]
    intro k hk hka
    rcases h3 k hk with h | h
    ·exact .inl h
    ·exact .inr ⟨h.1,by simp [hka,h.2]⟩
  ·clear s2 o2 s7 o7 s8 s39 s40 s41 beh h3 h1
   rintro σ1 ⟨s2,o2,s7,o7,s8,s39,s40,s41,s10,o10,oB,oT,h3⟩
   clear σ
   simp
   refine W_dregD w9 f9 (by decide) ?_
   unfold w9 f9
   have hcs:(cs.set a (.own 1012201 (σ1.tg 1012201)))[a]? = some (.own 1012201 (σ1.tg 1012201)):=by simp [h2,ha]
   simp [s2,o2,s7,o7,s8,s39,s40,s41,s10,o10,oB,oT,ha,hcs,h2,show a + 1 ≤ n from ha,putC_one (l:=cs.set a (.own 1012201 (σ1.tg 1012201))) (a:=a) (by simp [h2,ha])]
   have hrl:(rows (E.take i) (a:Int)).length ≤ 4000:=by
    have h1:(rows (E.take i) (a:Int)).length ≤ (E.take i).length:=by simp only [rows,List.length_map];exact List.length_filter_le _ _
    have h2:(E.take i).length ≤ 4000:=by simp;omega
    omega
   refine ⟨by simp [room],by simp [room];omega,realC_n ?_⟩
   simp
   refine W_stl (B:=1012038) (tb:=24) (cs:=cs.set a (.own 1012063 (σ1.tg 1012063 + 1))) (i:=a) (k:=1012063) (t:=σ1.tg 1012063 + 1) (K:=2000000 + a) (q:=.row 3 1 8 (ic (rows (E.take (i + 1)) a))) (by simp) (by simp [h2,ha]) (by simp) (by simp [htk,rows,ic]) rfl (by simp) ?_
   simp [s41,w1]
   refine ⟨m - 1,by omega,i + 1,by omega,⟨by simp [s2],by simp [o2],by simp [s7],by simp [o7],by simp [s8],⟨cs.set a (.own (2000000 + a) (σ1.tg (2000000 + a) + 1)),by simp,by simp [h2],fun k hk=>?_⟩,by simp [s39],by simp [s40],by simp⟩⟩
   by_cases hka:k=a
   ·subst hka
    right
    simp [h2,ha]
   ·have hr:rows (E.take (i + 1)) (k:Int)=rows (E.take i) (k:Int):=by rw [htk];simp [rows];omega
    rw [hr]
    simp [hka,Ne.symm hka]
    exact h3 k hk hka
 ·have:i=E.length:=by omega
  subst this
  simp [s2,o2,s7,o7,s8,s39,s40,s41]
  exact hQ _ ⟨by simp [s2],by simp [o2],by simp [s7],by simp [o7],by simp [s8],beh.mono (by simp) (by simp),by simp [s39],by simp [s40],by simp [s41]⟩
end Go.Abs

namespace Go.Abs
open Go.Proofs
structure HS (σ:St) (h:List Int):Prop where
 oB:σ.ob 1012067=some (hbox (σ.tg 1012200))
 oK:σ.ob 1012200=some (hrow h) ∨ (σ.ob 1012200=some (.row 3 1 8 []) ∧ h=[])
theorem HS.mono {σ σ':St} {h:List Int} (H:HS σ h) (h1:σ'.ob 1012067=σ.ob 1012067) (h2:σ'.ob 1012200=σ.ob 1012200) (h3:σ'.tg 1012200=σ.tg 1012200):HS σ' h:=⟨by rw [h1,h3];exact H.oB,by rw [h2];exact H.oK⟩
def pushed (σ:St) (d:Nat) (h:List Int) (k:Int):St:=(σ.hp 1012067 56 1012200 1 (hrow (pushL h k))).set d (.tup [])
theorem push_call {σ:St} {h:List Int} {d:Nat} {k:Int} {Kc:St → Prop} (H:HS σ h) (hl:h.length < 999999) (hK:Kc (pushed σ d h k)) :
  ECall Tryz.prog σ (.c (.clo 30 [] [])) [.c (.ifc 55 1012067 (σ.tg 1012067)),.c (.v (.iface 3 (.int .i64 k)))] (some d) Kc:=by
 rcases H.oK with oK | ⟨oK,rfl⟩
 ·exact ECall.hp (r:=1) (args:=[ifB (σ.tg 1012067),ifI k]) (zp30 (σ.tg 1012067) (σ.tg 1012200) h k hl) (by simp [toD2,toD1,toD,ifI,ifB]) (by simp) rfl (.inr rfl) (by decide) rfl H.oB rfl oK rfl fun _=>hK
 ·exact ECall.hp (r:=1) (args:=[ifB (σ.tg 1012067),ifI k]) (zp30n (σ.tg 1012067) (σ.tg 1012200) k) (by simp [toD2,toD1,toD,ifI,ifB]) (by simp) rfl (.inr rfl) (by decide) rfl H.oB rfl oK rfl fun _=>hK
theorem pushed_HS {σ:St} {d:Nat} {h:List Int} {k:Int}:HS (pushed σ d h k) (pushL h k):=⟨by simp [pushed,hbox],.inl (by simp [pushed])⟩
@[simp] theorem pushed_sl (σ:St) (d:Nat) (h:List Int) (k:Int) (s:Nat):(pushed σ d h k).sl s=if s=d then .tup [] else σ.sl s:=rfl
theorem pushed_ob (σ:St) (d:Nat) (h:List Int) (k:Int) (x:Nat) (h1:x ≠ 1012067) (h2:x ≠ 1012200):(pushed σ d h k).ob x=σ.ob x:=by simp [pushed,h1,h2]
theorem pushed_tg (σ:St) (d:Nat) (h:List Int) (k:Int) (x:Nat) (h2:x ≠ 1012200):(pushed σ d h k).tg x=σ.tg x:=by simp [pushed,h2]
structure F1 (n:Nat) (E:List Edge2) (cnt:Int → Nat) (h:List Int) (σ:St):Prop where
 s2:σ.sl 2=.c (.ref 1012002 (σ.tg 1012002) 0)
 o2:σ.ob 1012002=some (nbox n)
 s7:σ.sl 7=.c (.own 1012036 (σ.tg 1012036))
 o7:σ.ob 1012036=some (.mrow 3 1 8 (ic (aL n cnt)))
 s8:σ.sl 8=.c (.sob 1012038 (σ.tg 1012038) n)
 beh:Beh σ n (rows E)
 s11:σ.sl 11=.c (.ref 1012067 (σ.tg 1012067) 0)
 hs:HS σ h
theorem F1.mono {n:Nat} {E:List Edge2} {cnt:Int → Nat} {h:List Int} {σ σ':St} (H:F1 n E cnt h σ) (hs:∀ s,s=2 ∨ s=7 ∨ s=8 ∨ s=11 → σ'.sl s=σ.sl s) (ho:∀ k,σ'.ob k=σ.ob k) (ht:∀ k,σ'.tg k=σ.tg k):F1 n E cnt h σ':=
 ⟨by rw [hs 2 (by simp),ht];exact H.s2,by rw [ho];exact H.o2,by rw [hs 7 (by simp),ht];exact H.s7,by rw [ho];exact H.o7,by rw [hs 8 (by simp),ht];exact H.s8,H.beh.mono (ho _) (fun k _=>⟨ho k,ht k⟩),by rw [hs 11 (by simp),ht];exact H.s11,H.hs.mono (ho _) (ho _) (ht _)⟩
theorem F1.pushed {n:Nat} {E:List Edge2} {cnt:Int → Nat} {h:List Int} {σ:St} (H:F1 n E cnt h σ) (d:Nat) (k:Int) (hd:d ≠ 2 ∧ d ≠ 7 ∧ d ≠ 8 ∧ d ≠ 11):F1 n E cnt (pushL h k) (pushed σ d h k):=by
 obtain ⟨d2,d7,d8,d11⟩:=hd
 refine ⟨?_,?_,?_,?_,?_,H.beh.mono (pushed_ob _ _ _ _ _ (by decide) (by decide)) (fun x hx=>⟨pushed_ob _ _ _ _ _ (by omega) (by omega),pushed_tg _ _ _ _ _ (by omega)⟩),?_,pushed_HS⟩
 ·rw [pushed_sl,if_neg (Ne.symm d2),pushed_tg _ _ _ _ _ (by decide)];exact H.s2
 ·rw [pushed_ob _ _ _ _ _ (by decide) (by decide)];exact H.o2
 ·rw [pushed_sl,if_neg (Ne.symm d7),pushed_tg _ _ _ _ _ (by decide)];exact H.s7
 ·rw [pushed_ob _ _ _ _ _ (by decide) (by decide)];exact H.o7
 ·rw [pushed_sl,if_neg (Ne.symm d8),pushed_tg _ _ _ _ _ (by decide)];exact H.s8
 ·rw [pushed_sl,if_neg (Ne.symm d11),pushed_tg _ _ _ _ _ (by decide)];exact H.s11
theorem push_F1 {n:Nat} {E:List Edge2} {cnt:Int → Nat} {σ:St} {h:List Int} {d:Nat} {k:Int} {Kc:St → Prop} (H:F1 n E cnt h σ) (hl:h.length < 999999) (hd:d ≠ 2 ∧ d ≠ 7 ∧ d ≠ 8 ∧ d ≠ 11)
  (hK:∀ σ',F1 n E cnt (pushL h k) σ' → (∀ s,s ≠ d → σ'.sl s=σ.sl s) → (∀ x,x ≠ 1012067 → x ≠ 1012200 → σ'.ob x=σ.ob x ∧ σ'.tg x=σ.tg x) → Kc σ') :
  ECall Tryz.prog σ (.c (.clo 30 [] [])) [.c (.ifc 55 1012067 (σ.tg 1012067)),.c (.v (.iface 3 (.int .i64 k)))] (some d) Kc:=
 push_call H.hs hl (hK _ (H.pushed d k hd) (fun s hs=>by rw [pushed_sl,if_neg hs]) fun x h1 h2=>⟨pushed_ob _ _ _ _ _ h1 h2,pushed_tg _ _ _ _ _ h2⟩)
theorem loop1 {σ:St} {Q:SEx → St → Prop} (n:Nat) (E:List Edge2) (cnt:Int → Nat) (hn:n ≤ 200) (hc:∀ k,cnt k ≤ 4000) (h0:F1 n E cnt [] σ) (s68:σ.sl 68=.c (.v (.int .i64 n))) (s69:σ.sl 69=.c (.v (.int .i64 (0:Nat))))
  (hQ:∀ σ' h,F1 n E cnt h σ' → HI n [] cnt h → Q .normal σ'):W Tryz.prog 1012000 (.loop c1012b1) σ (onBlock 2 Q):=by
 refine W_loop (fun m σ=>∃ (i:Nat) (h:List Int),i + m=n ∧ F1 n E cnt h σ ∧ σ.sl 68=.c (.v (.int .i64 n)) ∧ σ.sl 69=.c (.v (.int .i64 i)) ∧ HI n [] (fun k=>if k < i then cnt k else 1) h) n ⟨0,[],by simp,h0,s68,s69,⟨fun k h1 h2=>by simp at h2,by simp,fun k=>by
  by_cases h:k < 0
  ·simp [h];intro h1;omega
  ·simp [h]⟩⟩ ?_
 clear h0 s68 s69 σ
 rintro m σ ⟨i,h,hm,H,s68,s69,hi⟩
 have H':=H
 obtain ⟨s2,o2,s7,o7,s8,beh,s11,hs⟩:=H'
 unfold c1012b1
 by_cases hin:i < n
 ·have w1:=wrap_succ (i:=i) (by omega)
  by_cases hz:cnt (i:Int)=0
  ·simp [s2,o2,s7,o7,s8,s11,s68,s69,hin,hz]
   refine push_F1 (n:=n) (E:=E) (cnt:=cnt) (h:=h) (H.mono (fun s hs=>?_) (fun k=>?_) (fun k=>?_)) (by have:=hi.len;omega) (by decide) fun σ' H' e1 e2=>?_
   ·rcases hs with rfl | rfl | rfl | rfl <;> simp
   ·simp
   ·simp
   have q68:σ'.sl 68=.c (.v (.int .i64 n)):=by rw [e1 68 (by decide)];simp [s68]
   have q69:σ'.sl 69=.c (.v (.int .i64 i)):=by rw [e1 69 (by decide)];simp [s69]
   simp [q68,q69,w1]
   refine ⟨m - 1,by omega,i + 1,by omega,pushL h i,H'.mono (fun s hs=>?_) (fun k=>?_) (fun k=>?_),by simp,hi.push (by omega) (by omega) (by simp) (by simp) (by simp [show (i:Int) < (i:Int) + 1 by omega];exact hz) fun j hj=>?_⟩
   ·rcases hs with rfl | rfl | rfl | rfl <;> simp
   ·simp
   ·simp
   ·have:(j < (i:Int) + 1) ↔ (j < (i:Int)):=by omega
    simp [this]
  ·have hz':¬ ((cnt (i:Int):Nat):Int)=0:=by omega
   simp [s2,o2,s7,o7,s8,s11,s68,s69,hin,hz,hz',w1]
   refine ⟨m - 1,by omega,i + 1,by omega,h,H.mono (fun s hs=>?_) (fun k=>?_) (fun k=>?_),by simp,hi.less (k:=(i:Int)) (by simp) (by simp [show (i:Int) < (i:Int) + 1 by omega];exact hz) fun j hj=>?_⟩
   ·rcases hs with rfl | rfl | rfl | rfl <;> simp
   ·simp
   ·simp
   ·have:(j < (i:Int) + 1) ↔ (j < (i:Int)):=by omega
    simp [this]
 ·have:i=n:=by omega
  subst this
  simp [s2,o2,s7,o7,s8,s11,s68,s69]
  refine hQ _ h (H.mono (by rintro s (rfl | rfl | rfl | rfl) <;> simp) (by simp) (by simp)) ⟨hi.heap,hi.nodup,fun k=>?_⟩
  rw [hi.mem]
  by_cases hk:k < (i:Int)
  ·simp [hk]
  ·simp [hk]
   try omega
end Go.Abs

namespace Go.Abs
open Go.Proofs
theorem pop_F1 {n:Nat} {E:List Edge2} {cnt:Int → Nat} {σ:St} {h:List Int} {d:Nat} {Kc:St → Prop} (H:F1 n E cnt h σ) (h0:0 < h.length) (hl:h.length < 999999) (hd:d ≠ 2 ∧ d ≠ 7 ∧ d ≠ 8 ∧ d ≠ 11)
  (hK:∀ σ',F1 n E cnt (popL h).dropLast σ' → σ'.sl d=ifI (popL h)[h.length - 1]! → (∀ s,s ≠ d → σ'.sl s=σ.sl s) → (∀ x,x ≠ 1012067 → x ≠ 1012200 → σ'.ob x=σ.ob x ∧ σ'.tg x=σ.tg x) → Kc σ') :
  ECall Tryz.prog σ (.c (.clo 32 [] [])) [.c (.ifc 55 1012067 (σ.tg 1012067))] (some d) Kc:=by
 have oK:σ.ob 1012200=some (hrow h):=by
  rcases H.hs.oK with h1 | ⟨_,h2⟩
  ·exact h1
  ·subst h2;simp at h0
 refine ECall.hp (r:=1) (q':=hrow (popL h).dropLast) (args:=[ifB (σ.tg 1012067)]) (zp32 (σ.tg 1012067) (σ.tg 1012200) h h0 hl) (by simp [toD2,toD1,toD,ifB]) (by simp) rfl (.inr rfl) (by decide) rfl H.hs.oB rfl oK rfl fun _=>?_
 obtain ⟨d2,d7,d8,d11⟩:=hd
 have ob:∀ x,x ≠ 1012067 → x ≠ 1012200 → (((σ.hp 1012067 56 1012200 1 (hrow (popL h).dropLast)).set d (ifI (popL h)[h.length - 1]!)).ob x=σ.ob x ∧ ((σ.hp 1012067 56 1012200 1 (hrow (popL h).dropLast)).set d (ifI (popL h)[h.length - 1]!)).tg x=σ.tg x):=fun x h1 h2=>by simp [h1,h2]
 refine hK _ ⟨?_,?_,?_,?_,?_,H.beh.mono (ob _ (by decide) (by decide)).1 (fun x hx=>ob _ (by omega) (by omega)),?_,⟨by simp [hbox],.inl (by simp)⟩⟩ (by simp) (fun s hs=>by simp [hs]) ob
 ·rw [set_sl,if_neg (Ne.symm d2),(ob _ (by decide) (by decide)).2];exact H.s2
 ·rw [(ob _ (by decide) (by decide)).1];exact H.o2
 ·rw [set_sl,if_neg (Ne.symm d7),(ob _ (by decide) (by decide)).2];exact H.s7
 ·rw [(ob _ (by decide) (by decide)).1];exact H.o7
 ·rw [set_sl,if_neg (Ne.symm d8),(ob _ (by decide) (by decide)).2];exact H.s8
 ·rw [set_sl,if_neg (Ne.symm d11),set_tg,hp_tg,if_neg (by decide)];exact H.s11
theorem len_F1 {σ:St} {h:List Int} {d:Nat} {Kc:St → Prop} (H:HS σ h) (hK:Kc (σ.set d (ib h.length))) :
  ECall Tryz.prog σ (.c (.clo 31 [] [])) [.c (.own 1012200 (σ.tg 1012200))] (some d) Kc:=by
 rcases H.oK with oK | ⟨oK,rfl⟩
 ·exact ECall.ro (rs:=[]) (args:=[.c (.own 1012200 (σ.tg 1012200))]) [(1012200,σ.tg 1012200,hrow h)] (by simpa [refs] using zp31 (σ.tg 1012200) h) (by simp [toD2,toD1,toD,oK,hrow]) (by simp) rfl (Ro.one oK rfl rfl) fun _=>hK
 ·exact ECall.fn (args:=[is []]) (zn31 []) (by simp [toD2,toD1,toD,oK,is]) (by simp) rfl fun _=>hK
structure F2 (n:Nat) (E:List Edge2) (out:List Int) (i:Nat) (cnt:Int → Nat) (h:List Int) (σ:St):Prop where
 f1:F1 n E cnt h σ
 s13:σ.sl 13=.c (.own 1012100 (σ.tg 1012100))
 o13:σ.ob 1012100=some (.row 3 1 8 (ic out))
 s104:σ.sl 104=.c (.own (2000000 + i) (σ.tg (2000000 + i)))
 o104:σ.ob (2000000 + i)=some (.row 3 1 8 (ic (rows E i)))
 s105:σ.sl 105=.c (.v (.int .i64 (rows E i).length))
theorem F2.mono {n:Nat} {E:List Edge2} {out:List Int} {i:Nat} {cnt:Int → Nat} {h:List Int} {σ σ':St} (H:F2 n E out i cnt h σ) (hs:∀ s,s=2 ∨ s=7 ∨ s=8 ∨ s=11 ∨ s=13 ∨ s=104 ∨ s=105 → σ'.sl s=σ.sl s) (ho:∀ k,σ'.ob k=σ.ob k) (ht:∀ k,σ'.tg k=σ.tg k):F2 n E out i cnt h σ':=
 ⟨H.f1.mono (fun s h=>hs s (by rcases h with h | h | h | h <;> simp [h])) ho ht,by rw [hs 13 (by simp),ht];exact H.s13,by rw [ho];exact H.o13,by rw [hs 104 (by simp),ht];exact H.s104,by rw [ho];exact H.o104,by rw [hs 105 (by simp)];exact H.s105⟩
theorem loop2 {σ:St} {Q:SEx → St → Prop} (n:Nat) (E:List Edge2) (out:List Int) (i:Nat) (hn:n ≤ 200) (hE:E.length ≤ 4000) (hb:∀ p,p ∈ E → badE n p=false) (h:List Int)
  (h0:F2 n E out i (fun k=>pre E out k + (rows E i).count k) h σ) (s106:σ.sl 106=.c (.v (.int .i64 (0:Nat)))) (hi:HI n out (fun k=>pre E out k + (rows E i).count k) h) (hz:∀ x,x ∈ out → pre E out x + (rows E i).count x=0)
  (hQ:∀ σ' h,F2 n E out i (pre E out) h σ' → HI n out (pre E out) h → Q .normal σ'):W Tryz.prog 1012000 (.loop c1012b2) σ (onBlock 6 Q):=by
 refine W_loop (fun m σ=>∃ (j:Nat) (h:List Int),j + m=(rows E i).length ∧ F2 n E out i (fun k=>pre E out k + ((rows E i).drop j).count k) h σ ∧ σ.sl 106=.c (.v (.int .i64 j)) ∧ HI n out (fun k=>pre E out k + ((rows E i).drop j).count k) h ∧ ∀ x,x ∈ out → pre E out x + ((rows E i).drop j).count x=0) (rows E i).length ⟨0,h,by simp,by simpa using h0,s106,by simpa using hi,by simpa using hz⟩ ?_
 clear h0 s106 hi hz h σ
 rintro m σ ⟨j,h,hm,H,s106,hi,hz⟩
 have hrl:(rows E (i:Int)).length ≤ 4000:=by
  have h1:(rows E (i:Int)).length ≤ E.length:=by simp only [rows,List.length_map];exact List.length_filter_le _ _
  omega
 unfold c1012b2
 have s105:=H.s105
 by_cases hj:j < (rows E i).length
 ·have w1:=wrap_succ (i:=j) (by omega)
  obtain ⟨kI,hk1⟩:=at_of hj
  obtain ⟨_,hk2⟩:=getE hk1
  have hkm:kI ∈ rows E i:=List.mem_of_getElem? hk1
  obtain ⟨p,hp1,hp2⟩:=List.mem_map.1 hkm
  have hbp:=hb p (List.mem_filter.1 hp1).1
  simp [badE] at hbp
  obtain ⟨k,rfl⟩:=Int.eq_ofNat_of_zero_le (a:=kI) (by omega)
  have hkn:k < n:=by omega
  have hdr:=drop_at hk1
  -- the counts,one edge less
  have hc:∀ x:Int,pre E out x + ((rows E i).drop j).count x=pre E out x + ((rows E i).drop (j + 1)).count x + if x=k then 1 else 0:=fun x=>by
   rw [hdr]
   by_cases e:x=k
   ·subst e;simp;omega
   ·rw [List.count_cons_of_ne (Ne.symm e)];simp [e]
  have hck:pre E out (k:Int) + ((rows E i).drop j).count (k:Int)=pre E out (k:Int) + ((rows E i).drop (j + 1)).count (k:Int) + 1:=by simpa using hc k
  have hno:(k:Int) ∉ out:=fun h=>by have:=hz k h;omega
  have hlt:pre E out (k:Int) + ((rows E i).drop j).count (k:Int) ≤ 8000:=by
   have h1:pre E out (k:Int) ≤ E.length:=List.countP_le_length
   have h2:((rows E i).drop j).count (k:Int) ≤ ((rows E i).drop j).length:=List.count_le_length
   simp at h2
   omega
  obtain ⟨c1,hc1⟩:∃ c1:Int → Nat,c1=fun k=>pre E out k + ((rows E i).drop (j + 1)).count k:=⟨_,rfl⟩
  generalize hc0:(fun k=>pre E out k + ((rows E i).drop j).count k)=c0 at H hi
  have e0:∀ x,c0 x=c1 x + if x=k then 1 else 0:=fun x=>by rw [← hc0,hc1];exact hc x
  have ek:c0 (k:Int)=c1 (k:Int) + 1:=by simpa using e0 k
  have ekl:c0 (k:Int) ≤ 8000:=by rw [← hc0];exact hlt
  have en:∀ x:Int,x ≠ k → c1 x=c0 x:=fun x hx=>by have:=e0 x;rw [if_neg hx] at this;exact this.symm
  have hz2:∀ x,x ∈ out → pre E out x + ((rows E i).drop (j + 1)).count x=0:=fun x hx=>by have:=hz x hx;have:=hc x;omega
  clear hc hck hlt hz e0 hc0
  obtain ⟨⟨s2,o2,s7,o7,s8,beh,s11,hs⟩,s13,o13,s104,o104,s105⟩:=H
  have w2:IntKind.wrap .i64 (((c0 (k:Int):Nat):Int) - 1)=((c1 (k:Int):Nat):Int):=by rw [wrap_id (by omega) (by omega)];omega
  have hset:(aL n c0).set k ((c1 (k:Int):Nat):Int)=aL n c1:=aL_set rfl fun x hx=>en x (by omega)
  by_cases hz0:c1 (k:Int)=0
  ·have hset0:(aL n c0).set k 0=aL n c1:=by rw [← hset,hz0];rfl
   simp [s2,o2,s7,o7,s8,s11,s13,o13,s104,o104,s105,s106,hj,hk2,hkn,w2,hset0,hz0]
   refine push_F1 (n:=n) (E:=E) (cnt:=c1) (h:=h) ⟨by simp [s2],by simp [o2],by simp [s7],by simp,by simp [s8],beh.mono (by simp) (fun x hx=>by have h1:x ≠ 1012036:=(by omega);simp [h1]),by simp [s11],hs.mono (by simp) (by simp) (by simp)⟩ (by have:=hi.len;omega) (by decide) fun σ' H' e1 e2=>?_
   have q106:σ'.sl 106=.c (.v (.int .i64 j)):=by rw [e1 106 (by decide)];simp [s106]
   simp [q106,w1]
   refine ⟨m - 1,by omega,j + 1,by omega,pushL h k,?_,by simp,?_,fun x hx=>by have:=hz2 x hx;omega⟩
   ·rw [← hc1]
    refine F2.mono (σ:=σ') ⟨H',by rw [e1 13 (by decide),(e2 1012100 (by decide) (by decide)).2];simp [s13],by rw [(e2 1012100 (by decide) (by decide)).1];simp [o13],by rw [e1 104 (by decide),(e2 (2000000 + i) (by omega) (by omega)).2];simp [s104],by rw [(e2 (2000000 + i) (by omega) (by omega)).1];simp [o104],by rw [e1 105 (by decide)];simp [s105]⟩ (fun s hs=>?_) (fun k=>?_) (fun k=>?_)
    ·rcases hs with rfl | rfl | rfl | rfl | rfl | rfl | rfl <;> simp
    ·simp
    ·simp
   ·rw [← hc1]
    exact hi.push (by omega) (by omega) hno (by omega) hz0 en
  ·have hz':¬ ((c1 (k:Int):Nat):Int)=0:=by omega
   simp [s2,o2,s7,o7,s8,s11,s13,o13,s104,o104,s105,s106,hj,hk2,hkn,w2,hset,hz',w1,hz0]
   refine ⟨m - 1,by omega,j + 1,by omega,h,?_,by simp,?_,fun x hx=>by have:=hz2 x hx;omega⟩
   ·rw [← hc1]
    exact ⟨⟨by simp [s2],by simp [o2],by simp [s7],by simp,by simp [s8],beh.mono (by simp) (fun x hx=>by have h1:x ≠ 1012036:=(by omega);simp [h1]),by simp [s11],hs.mono (by simp) (by simp) (by simp)⟩,by simp [s13],by simp [o13],by simp [s104],by simp [o104],by simp [s105]⟩
   ·rw [← hc1]
    exact hi.less (k:=(k:Int)) (by omega) hz0 en
 ·have:j=(rows E i).length:=by omega
  subst this
  simp at H hi
  simp [s105,s106]
  refine hQ _ h (H.mono (fun s hs=>?_) (fun k=>?_) (fun k=>?_)) hi
  ·rcases hs with rfl | rfl | rfl | rfl | rfl | rfl | rfl <;> simp
  ·simp
  ·simp
end Go.Abs

namespace Go.Abs
open Go.Proofs
def OutSt (out:List Int) (σ:St):Prop:=(σ.sl 13=.c (.cap 1 8 []) ∧ out=[]) ∨ (σ.sl 13=.c (.own 1012100 (σ.tg 1012100)) ∧ σ.ob 1012100=some (.row 3 1 8 (ic out)))
theorem loop3 {σ:St} {Q:SEx → St → Prop} (n:Nat) (E:List Edge2) (hn:n ≤ 200) (hE:E.length ≤ 4000) (hb:∀ p,p ∈ E → badE n p=false) (h:List Int)
  (h0:F1 n E (pre E []) h σ) (s13:σ.sl 13=.c (.cap 1 8 [])) (hi:HI n [] (pre E []) h)
  (hQ:∀ σ',σ'.sl 2=.c (.ref 1012002 (σ'.tg 1012002) 0) → σ'.ob 1012002=some (nbox n) → OutSt (greedy n E n []) σ' → (greedy n E n []).length ≤ n → Q .normal σ'):W Tryz.prog 1012000 (.loop c1012b3) σ (onBlock 4 Q):=by
 refine W_loop (fun m σ=>∃ (out h:List Int),m=n - out.length ∧ F1 n E (pre E out) h σ ∧ OutSt out σ ∧ HI n out (pre E out) h ∧ (∀ x,x ∈ out → pre E out x=0) ∧ out.Nodup ∧ (∀ x,x ∈ out → 0 ≤ x ∧ x < n) ∧ greedy n E m out=greedy n E n []) n ⟨[],h,rfl,h0,.inl ⟨s13,rfl⟩,hi,by simp,by simp,by simp,rfl⟩ ?_
 clear h0 s13 hi h σ
 rintro m σ ⟨out,h,hm,H,ho,hi,hz,hnd,hr,hg⟩
 have hlen:=nodup_le hnd hr
 obtain ⟨s2,o2,s7,o7,s8,beh,s11,hs⟩:=H
 have H:F1 n E (pre E out) h σ:=⟨s2,o2,s7,o7,s8,beh,s11,hs⟩
 unfold c1012b3
 have oB:=hs.oB
 simp [s2,o2,s7,o7,s8,s11,oB,hbox]
 refine len_F1 (h:=h) (hs.mono (by simp) (by simp) (by simp)) ?_
 by_cases h0:0 < h.length
 ·obtain ⟨p1,p2,p3,p4,p5,p6⟩:=hi.pop h0 hz
  simp [ib,h0,s11]
  refine pop_F1 (n:=n) (E:=E) (cnt:=pre E out) (h:=h) (H.mono (fun s hs=>?_) (fun k=>?_) (fun k=>?_)) h0 (by have:=hi.len;omega) (by decide) fun σ1 H1 e0 e1 e2=>?_
  ·rcases hs with rfl | rfl | rfl | rfl <;> simp
  ·simp
  ·simp
  have ho1:OutSt out σ1:=by
   rcases ho with ⟨q1,q2⟩ | ⟨q1,q2⟩
   ·exact .inl ⟨by rw [e1 13 (by decide)];simp [q1],q2⟩
   ·exact .inr ⟨by rw [e1 13 (by decide),(e2 1012100 (by decide) (by decide)).2];simp [q1],by rw [(e2 1012100 (by decide) (by decide)).1];simp [q2]⟩
  clear e1 e2 s2 o2 s7 o7 s8 beh s11 hs H oB ho
  generalize (popL h)[h.length - 1]! = iI at *
  obtain ⟨i,rfl⟩:=Int.eq_ofNat_of_zero_le p2
  have hin:i < n:=by omega
  clear σ
  simp [e0,ifI,-W_seq]
  rw [W_seq,W_seq]
  simp [-W_seq]
  rw [W_seq]
  refine W_cut (fun σ=>F1 n E (pre E out) (popL h).dropLast σ ∧ σ.sl 14=.c (.v (.int .i64 i)) ∧ σ.sl 13=.c (.own 1012100 (σ.tg 1012100)) ∧ σ.ob 1012100=some (.row 3 1 8 (ic (out ++ [(i:Int)])))) ?_ ?_
  ·have hol:(out.length + 1) * 8 ≤ room:=by simp [room];omega
   have F:∀ σ2:St,(∀ s,s=2 ∨ s=7 ∨ s=8 ∨ s=11 → σ2.sl s=σ1.sl s) → (∀ k,k ≠ 1012100 → σ2.ob k=σ1.ob k ∧ σ2.tg k=σ1.tg k) → F1 n E (pre E out) (popL h).dropLast σ2:=fun σ2 q1 q2=>by
    obtain ⟨s2,o2,s7,o7,s8,beh,s11,hs⟩:=H1
    exact ⟨by rw [q1 2 (by simp),(q2 _ (by decide)).2];exact s2,by rw [(q2 _ (by decide)).1];exact o2,by rw [q1 7 (by simp),(q2 _ (by decide)).2];exact s7,by rw [(q2 _ (by decide)).1];exact o7,by rw [q1 8 (by simp),(q2 _ (by decide)).2];exact s8,beh.mono (q2 _ (by decide)).1 (fun x hx=>q2 x (by omega)),by rw [q1 11 (by simp),(q2 _ (by decide)).2];exact s11,hs.mono (q2 _ (by decide)).1 (q2 _ (by decide)).1 (q2 _ (by decide)).2⟩
   rcases ho1 with ⟨q1,rfl⟩ | ⟨q1,q2⟩
   ·simp [q1]
    refine ⟨by simp [room],F _ (fun s hs=>?_) (fun k hk=>?_),by simp [ic]⟩
    ·rcases hs with rfl | rfl | rfl | rfl <;> simp
    ·simp [hk]
   ·simp [q1,q2]
    refine ⟨by simp [room],by simpa using hol,F _ (fun s hs=>?_) (fun k hk=>?_),by simp [ic]⟩
    ·rcases hs with rfl | rfl | rfl | rfl <;> simp
    ·simp [hk]
  ·rintro σ2 ⟨H2,s14,s13,o13⟩
   clear e0 ho1 H1 σ1
   simp
   refine W_cut (fun σ=>F1 n E (pre E out) (popL h).dropLast σ ∧ σ.sl 14=.c (.v (.int .i64 i)) ∧ σ.sl 13=.c (.own 1012100 (σ.tg 1012100)) ∧ σ.ob 1012100=some (.row 3 1 8 (ic (out ++ [(i:Int)]))) ∧
     ∃ cs:List Cell,σ.ob 1012038=some (.box 24 cs) ∧ cs.length=n ∧ cs[i]? = some (.own (2000000 + i) (σ.tg (2000000 + i))) ∧ σ.ob (2000000 + i)=some (.row 3 1 8 (ic (rows E i)))) ?_ ?_
   ·obtain ⟨cs,h1,h2,h3⟩:=H2.beh.ex
    rcases h3 i hin with ⟨c1,c2⟩ | ⟨c1,c2⟩
    ·refine W_adb (B:=1012038) (tb:=24) (cs:=cs) (i:=i) (K:=2000000 + i) (ty:=3) (sz:=1) (bs:=8) (es:=[]) (by simp [h1]) c1 (by simp) ?_
     simp [s14,s13,o13,c2,h2,hin]
     refine ⟨?_,rfl⟩
     obtain ⟨s2,o2,s7,o7,s8,beh,s11,hs⟩:=H2
     refine ⟨by simp [s2],by simp [o2],by simp [s7],by simp [o7],by simp [s8],⟨cs.set i (.own (2000000 + i) (σ2.tg (2000000 + i) + 1)),by simp,by simp [h2],fun k hk=>?_⟩,by simp [s11],hs.mono (by simp) (by simp) (by simp)⟩
     by_cases hki:k=i
     ·subst hki
      right
      simp [h2,hk,c2,show ic []=[] from rfl]
     ·simp [hki,Ne.symm hki]
      exact h3 k hk
    ·refine W_gh (.refl _) ?_
     exact ⟨H2,s14,s13,o13,cs,h1,h2,c1,c2⟩
   ·rintro σ3 ⟨H3,s14,s13,o13,cs,h1,h2,c1,c2⟩
    have s8:=H3.s8
    obtain ⟨_,c1'⟩:=getE c1
    simp [s14,s13,s8,h1,h2,c1',c2,hin]
    have hfun:pre E out=fun k=>pre E (out ++ [(i:Int)]) k + (rows E (i:Int)).count k:=funext fun k=>pre_step E out i k p4
    have hout:(out ++ [(i:Int)]).Nodup:=by
     rw [List.nodup_append]
     exact ⟨hnd,by simp,fun a ha b hb=>by simp at hb;subst hb;intro e;subst e;exact p4 ha⟩
    have hrange:∀ x,x ∈ out ++ [(i:Int)] → 0 ≤ x ∧ x < n:=fun x hx=>by
     rcases List.mem_append.1 hx with h | h
     ·exact hr x h
     ·simp at h;omega
    have hlen2:=nodup_le hout hrange
    simp at hlen2
    refine loop2 n E (out ++ [(i:Int)]) i hn hE hb (popL h).dropLast ?_ (by simp) p5 p6 fun σ' h' H' hi'=>?_
    ·rw [← hfun]
     exact ⟨H3.mono (fun s hs=>by rcases hs with rfl | rfl | rfl | rfl <;> simp) (by simp) (by simp),by simp [s13],by simp [o13],by simp,by simp [c2],by simp⟩
    ·simp
     refine ⟨m - 1,by omega,out ++ [(i:Int)],by simp;omega,h',H'.f1,.inr ⟨H'.s13,H'.o13⟩,hi',fun x hx=>?_,hout,fun x hx=>hrange x (by simpa using hx),?_⟩
     ·have:=p6 x (by simpa using hx);omega
     ·obtain ⟨m',rfl⟩:∃ m',m=m' + 1:=⟨m - 1,by omega⟩
      rw [greedy,p1] at hg
      exact hg
 ·have h0':h=[]:=by cases h with | nil=>rfl | cons x l=>simp at h0
  subst h0'
  have hfin:greedy n E m out=out:=by
   cases m with
   | zero=>rfl
   | succ m=>
    rw [greedy,nextG_none fun j j0 j1 jo jp=>?_]
    have:=(hi.mem j).2 ⟨j0,j1,jo,jp⟩
    simp at this
  simp [ib]
  rw [hfin] at hg
  refine hQ _ (by simp [s2]) (by simp [o2]) ?_ (by rw [← hg];exact hlen)
  rw [← hg]
  rcases ho with ⟨q1,q2⟩ | ⟨q1,q2⟩
  ·exact .inl ⟨by simp [q1],q2⟩
  ·exact .inr ⟨by simp [q1],by simp [q2]⟩
end Go.Abs

namespace Go.Abs
open Go.Proofs
theorem aL_zero (k:Nat):List.replicate k [Cell.v (.int .i64 0)]=ic (aL k (pre [] [])):=by
 refine List.ext_getElem (by simp) fun j h1 h2=>?_
 simp [pre]
theorem beh_zero {σ:St} {k:Nat} (h:σ.ob 1012038=some (.box 24 (List.replicate k (.cap 1 8 [])))):Beh σ k (rows []):=⟨_,h,by simp,fun j hj=>.inl ⟨by simp [hj],rfl⟩⟩
def ordAV (n:Int) (E:List Edge2):AV:=.tup [is (ord n E).1,ib (ord n E).2]
theorem zn12 (n:Int) (E:List Edge2):Fn Tryz.prog 12 [ib n,eds E] (ordAV n E):=by
 refine fn_of (base:=1012000) ok1012 rfl fun σ h0 hr=>?_
 have s0:σ.sl 0=.c (.v (.int .i64 n)):=h0 0
 have s1:σ.sl 1=.c (.sl 2 16 (ecs E)):=h0 1
 have hEl:=real_eds (hr (eds E) (by simp))
 clear h0 hr
 unfold c1012
 have bad:wrongE n E=true → ord n E=([],1):=fun h=>by simp [ord,h]
 by_cases c1:n < 0
 ·have hw:wrongE n E=true:=by simp [wrongE,c1]
  simp [s0,s1,c1]
  refine GCall.fn (res:=bb false) (fun h=>by cases h) rfl (by simp) rfl fun _=>?_
  simp [ordAV,bad hw,r1012,is,ib,bb]
 ·by_cases c2:200 < n
  ·have hw:wrongE n E=true:=by simp [wrongE,c2]
   simp [s0,s1,c1,c2]
   refine GCall.fn (res:=bb false) (fun h=>by cases h) rfl (by simp) rfl fun _=>?_
   simp [ordAV,bad hw,r1012,is,ib,bb]
  ·by_cases c3:4000 < E.length
   ·have hw:wrongE n E=true:=by simp [wrongE,c3]
    have c3':(4000:Int) < E.length:=by omega
    simp [s0,s1,c1,c2,c3,c3']
    refine GCall.fn (res:=bb false) (fun h=>by cases h) rfl (by simp) rfl fun _=>?_
    simp [ordAV,bad hw,r1012,is,ib,bb]
   ·have c3':¬ (4000:Int) < E.length:=by omega
    simp [s0,s1,c1,c2,c3,c3']
    refine GCall.ro (rs:=[]) (args:=[eds E,.c (.clo 28 [] [(1012002,σ.tg 1012002 + 1)])]) [(1012002,σ.tg 1012002 + 1,nbox n)] (fun _=>by simpa [refs] using zp29 (σ.tg 1012002 + 1) n E) (by simp [toD2,toD1,toD,eds]) (by simp) rfl (Ro.one (by simp [nbox]) (by simp) rfl) fun _=>?_
    by_cases c4:E.any (badE n)=true
    ·have hw:wrongE n E=true:=by simp only [wrongE,c4,Bool.or_true]
     rw [c4]
     simp [ordAV,bad hw,r1012,is,ib,bb]
    ·have c4:E.any (badE n)=false:=by simpa using c4
     rw [c4]
     have hw:wrongE n E=false:=by simp only [wrongE,c4,Bool.or_false];simp [c1,c2,c3]
     obtain ⟨k,rfl⟩:=Int.eq_ofNat_of_zero_le (a:=n) (by omega)
     have hk:k ≤ 200:=by omega
     simp [bb]
     refine W_dregD w1012_0 f1012_0 (by decide) ?_
     unfold w1012_0 f1012_0
     simp [s0,s1]
     refine ⟨by simp [room];omega,by simp [room];omega,realC_n ?_⟩
     simp [s0,s1]
     have hb:∀ p,p ∈ E → badE k p=false:=fun p hp=>by
      have:=List.any_eq_false.1 c4 p hp
      simpa using this
     refine loop0 k E hk (by omega) hb ⟨by simp,by simp [nbox],by simp,by simp [aL_zero],by simp,beh_zero (by simp),by simp,by simp,by simp⟩ fun σ1 H1=>?_
     clear s0 s1 σ
     obtain ⟨s2,o2,s7,o7,s8,beh,s39,s40,s41⟩:=H1
     simp only [List.take_length] at o7 beh
     simp [s2,o2,s7,o7,s8]
     refine W_adb (B:=1012067) (tb:=56) (cs:=[.cap 1 8 []]) (i:=0) (K:=1012200) (ty:=3) (sz:=1) (bs:=8) (es:=[]) (by simp) rfl (by decide) ?_
     simp [s2,o2,s7,o7,s8,nbox]
     refine loop1 k E (pre E []) hk (fun x=>Nat.le_trans List.countP_le_length (by omega)) ⟨by simp [s2],by simp [o2,nbox],by simp [s7],by simp [o7],by simp [s8],beh.mono (by simp) (fun x hx=>by have h1:x ≠ 1012067:=(by omega);have h2:x ≠ 1012200:=(by omega);simp [h1,h2]),by simp,⟨by simp [hbox],.inr ⟨by simp,rfl⟩⟩⟩ (by simp) (by simp) fun σ2 h H2 hi=>?_
     clear s2 o2 s7 o7 s8 beh s39 s40 s41 σ1
     simp
     refine loop3 k E hk (by omega) hb h (H2.mono (fun s hs=>by rcases hs with rfl | rfl | rfl | rfl <;> simp) (by simp) (by simp)) (by simp) hi fun σ3 s2 o2 ho hgl=>?_
     clear H2 hi σ2
     have hord:ord k E=if (greedy k E k []).length < k then ([],12) else (greedy k E k [],0):=by simp [ord,hw]
     rcases ho with ⟨s13,hg⟩ | ⟨s13,o13⟩
     ·rw [hg] at hord
      by_cases hk0:0 < k
      ·simp [s13,s2,o2,nbox,hk0,ordAV,hord,r1012,is,ib]
      ·simp [s13,s2,o2,nbox,hk0,ordAV,hord,r1012,is,ib]
     ·by_cases hlk:(greedy k E k []).length < k
      ·simp [s13,o13,s2,o2,nbox,hlk,ordAV,hord,r1012,is,ib]
      ·simp [s13,o13,s2,o2,nbox,hlk,ordAV,hord,r1012,is,ib,ic]
end Go.Abs

namespace Go.Abs
def c1013:SCode:=
 .seq (.reg [o_ 0 (.mv (.k (.bool false)))]) (.seq (.reg [o_ 6 (.build 28 [.v (.int .i64 0),.v (.int .i64 0)] [(0,0,1,.k (.int .i64 2)),(1,1,1,.k (.int .i64 0))]),o_ 7 (.lit 28 2 16 [.t 6]),o_ 8 (.call (.f 12) [.k (.int .i64 3),.t 7]),m_ 5 8,o_ 9 (.ext (.t 5) 0),o_ 10 (.ext (.t 5) 1),m_ 1 9,m_ 2 10]) (.seq (.reg [o_ 12 (.call (.f 33) [.k (.int .i64 0)]),o_ 13 (.build 70 [.v (.int .i64 0),.v (.int .i64 0),.v (.int .i64 0),.cap 3 40 [],.v (.int .i64 0),.v (.int .i64 0),.cap 3 40 [],.v (.int .i64 0),.v (.int .i64 0),.cap 6 80 [],.cap 6 96 [],.v (.int .i64 0)] [(0,0,1,.k (.int .i64 1)),(1,1,3,.t 12)]),o_ 14 (.call (.f 34) [.k (.int .i64 0)]),
 o_ 15 (.build 70 [.v (.int .i64 0),.v (.int .i64 0),.v (.int .i64 0),.cap 3 40 [],.v (.int .i64 0),.v (.int .i64 0),.cap 3 40 [],.v (.int .i64 0),.v (.int .i64 0),.cap 6 80 [],.cap 6 96 [],.v (.int .i64 0)] [(0,0,1,.k (.int .i64 1)),(1,1,3,.t 14)]),o_ 16 (.lit 70 12 160 [.t 13,.t 15]),o_ 17 (.lit 3 1 8 [.k (.int .i64 1)]),o_ 18 (.call (.f 17) [.t 16,.t 17]),m_ 11 18,o_ 19 (.ext (.t 11) 0),o_ 20 (.ext (.t 11) 1),m_ 3 19,m_ 4 20]) (.seq (.reg [m_ 21 2,o_ 22 (.bin .eql (.t 21) (.k (.int .i64 0))),m_ 23 22,pm_ 24 23 4,p_ 25 23 (.bin .eql (.t 24) (.k (.int .i64 0))),o_ 26 (.pick (.t 23) (.t 25) (.k (.bool false))),m_ 27 26,pm_ 28 27 1,p_ 29 27 (.lit 3 1 8 [.k (.int .i64 1),.k (.int .i64 2),.k (.int .i64 0)]),p_ 30 27 (.call (.f 15) [.t 28,.t 29]),o_ 31 (.pick (.t 27) (.t 30) (.k (.bool false))),m_ 32 31,pm_ 33 32 3,
 p_ 34 32 (.lit 3 1 8 [.k (.int .i64 0),.k (.int .i64 1)]),p_ 35 32 (.call (.f 15) [.t 33,.t 34]),o_ 36 (.pick (.t 32) (.t 35) (.k (.bool false))),m_ 0 36]) (.ret))))
def r1013:List RR:=[.t 0]
theorem ok1013:okFn Go.Proofs.Tryz.prog 13 37 c1013 r1013 0=true:=by kernel_rfl
end Go.Abs

namespace Go.Abs
open Go.Proofs
def ebox (l:List T):Obj:=.box 37 [.sl 12 160 (l.map axc)]
def outE (len:Nat) (x:Int):Bool:=decide (x < 0) || decide ((len:Int) ≤ x)
def fstOut (len:Nat):List Int → Nat → Int
 | [],_=>-1
 | p :: r,i=>if outE len p then i else fstOut len r (i + 1)
theorem fstOut_any (len:Nat):∀ (l:List Int) (i:Nat),decide (0 ≤ fstOut len l i)=l.any (outE len)
 | [],i=>by simp [fstOut]
 | p :: r,i=>by
  simp only [fstOut,List.any_cons]
  by_cases h:outE len p=true
  ·simp [h]
  ·simp only [h];simpa using fstOut_any len r (i + 1)
theorem sp1039 (tn:Nat) (l:List T) (x:Int):Spec Tryz.prog 39 [ib x,.c (.ref 1017002 tn 0)] [(1017002,tn,ebox l)] (bb (outE l.length x)) [(1017002,tn,ebox l)]:=by
 refine spec_one (base:=1039000) ok1039 rfl fun σ h0 oK gK hr=>?_
 have s0:σ.sl 0=.c (.v (.int .i64 x)):=h0 0
 have s1:σ.sl 1=.c (.ref 1017002 tn 0):=h0 1
 clear h0 hr
 unfold c1039
 by_cases c1:x < 0
 ·simp [s0,s1,oK,gK,ebox,c1]
  refine EndU_one ?_ ?_ ?_ ?_ <;> simp [r1039,outE,bb,c1,oK,gK,ebox]
 ·simp [s0,s1,oK,gK,ebox,c1]
  refine EndU_one ?_ ?_ ?_ ?_ <;> simp [r1039,outE,bb,c1,oK,gK,ebox]
theorem sp1060 (tn:Nat) (es:List T) (l:List Int):Spec Tryz.prog 60 [is l,.c (.clo 39 [] [(1017002,tn)])] [(1017002,tn,ebox es)] (ib (fstOut es.length l 0)) [(1017002,tn,ebox es)]:=by
 refine spec_one (base:=1060000) ok1060 rfl fun σ h0 oK gK hr=>?_
 have hl:=real_is (hr (is l) (by simp))
 have s0:σ.sl 0=.c (.sl 1 8 (ic l)):=h0 0
 have s1:σ.sl 1=.c (.clo 39 [] [(1017002,tn)]):=h0 1
 clear h0 hr
 unfold c1060
 simp [s0,s1,-W_block]
 rw [W_block]
 refine W_loop (fun m σ=>∃ i:Nat,i + m=l.length ∧ fstOut es.length (l.drop i) i=fstOut es.length l 0 ∧ σ.sl 0=.c (.sl 1 8 (ic l)) ∧ σ.sl 1=.c (.clo 39 [] [(1017002,tn)]) ∧ σ.sl 7=.c (.v (.int .i64 l.length)) ∧ σ.sl 8=.c (.v (.int .i64 i)) ∧ σ.ob 1017002=some (ebox es) ∧ σ.tg 1017002=tn) l.length ⟨0,by simp [s0,s1,oK,gK]⟩ ?_
 clear s0 s1 oK gK σ
 rintro m σ ⟨i,hm,hp,s0,s1,s7,s8,oK,gK⟩
 unfold c1060b0
 by_cases hi:i < l.length
 ·have w1:=wrap_succ (i:=i) (by omega)
  obtain ⟨p,hp1⟩:=at_of hi
  obtain ⟨_,hp2⟩:=getE hp1
  rw [drop_at hp1,fstOut] at hp
  simp [s0,s1,s7,s8,oK,gK,hi,hp2]
  refine ECall.ro (args:=[ib p]) [(1017002,tn,ebox es)] (by simpa [refs] using sp1039 tn es p) (by simp [toD2,toD1,ib,toD]) (by simp) rfl (Ro.one (by simp [oK]) (by simp [gK]) rfl) fun _=>?_
  cases hb:outE es.length p with
  | true=>
   rw [hb] at hp
   simp [bb]
   refine EndU_one ?_ ?_ ?_ ?_ <;> simp [r1060,oK,gK,ib,← hp]
  | false=>
   rw [hb] at hp
   simp [bb,w1,s0,s1,s7,s8,oK,gK]
   exact ⟨m - 1,by omega,i + 1,by omega,by simpa using hp,rfl⟩
 ·have:i=l.length:=by omega
  subst this
  simp [fstOut] at hp
  simp [s0,s1,s7,s8,oK,gK]
  refine EndU_one ?_ ?_ ?_ ?_ <;> simp [r1060,oK,gK,ib,← hp]
theorem sp1038 (tn:Nat) (es:List T) (l:List Int):Spec Tryz.prog 38 [is l,.c (.clo 39 [] [(1017002,tn)])] [(1017002,tn,ebox es)] (bb (l.any (outE es.length))) [(1017002,tn,ebox es)]:=by
 refine spec_one (base:=1038000) ok1038 rfl fun σ h0 oK gK hr=>?_
 have s0:σ.sl 0=.c (.sl 1 8 (ic l)):=h0 0
 have s1:σ.sl 1=.c (.clo 39 [] [(1017002,tn)]):=h0 1
 clear h0 hr
 unfold c1038
 simp [s0,s1]
 refine ECall.ro (rs:=[]) (args:=[is l,.c (.clo 39 [] [(1017002,tn)])]) [(1017002,tn,ebox es)] (by simpa [refs] using sp1060 tn es l) (by simp [toD2,toD1,is,toD,ic]) (by simp) rfl (Ro.one (by simp [oK]) (by simp [gK]) rfl) fun _=>?_
 simp [ib]
 refine EndU_one ?_ ?_ ?_ ?_ <;> simp [r1038,oK,gK,bb,← fstOut_any es.length l 0]
theorem new1040 (x:Int) (l:List Int):SpecNew Tryz.prog 40 [is (x :: l)] (.c (.own 0 0)) (hrow (x :: l)):=by
 refine new_of (base:=1040000) 1040007 ok1040 rfl rfl rfl fun σ h0 hr=>?_
 have hl:=real_is (hr (is (x :: l)) (by simp))
 have s0:σ.sl 0=.c (.sl 1 8 (ic (x :: l))):=h0 0
 simp only [ic,List.map_cons] at s0
 clear h0 hr
 unfold c1040
 simp [s0]
 refine ⟨by simpa [room] using hl,_,.refl _,⟨by simp [r1040],by simp [r1040,resN,resLN,rrEvN],by simp [hrow,ic]⟩⟩
def u0:T:=.mk 2 0 []
def c0:T:=.mk 3 0 []
def row0:List T:=[u0,c0]
theorem uses_u0:usesA u0=[]:=by simp [usesA,u0,tz,addAll,T.consts,T.cons,T.consL,sortI]
theorem uses_c0:usesA c0=[0]:=by simp [usesA,c0,tz,addAll,T.consts,T.cons,T.consL,sortI,addK]
theorem sort_10:sortI [1,0]=[0,1]:=by
 refine srt_ext (sortI_srt (by decide)) (by decide) fun n=>?_
 rw [sortI_mem];simp;omega
theorem chk_row0:chk row0 0=0:=by decide
theorem fn1041_0:Fn Tryz.prog 41 [axs row0,ib (0:Nat)] (is []):=by
 have:=fn1041 row0 0 u0 rfl (by decide) (by decide) (by simp [u0,T.consts,T.cons,T.consL,sortI]) (by simp [u0,tz,addAll,T.consts,T.cons,T.consL,sortI]) (by simp [u0,tz,addAll,T.consts,T.cons,T.consL,sortI])
 rwa [uses_u0] at this
theorem fn1041_1:Fn Tryz.prog 41 [axs row0,ib (1:Nat)] (is [0]):=by
 have:=fn1041 row0 1 c0 rfl (by decide) (by decide) (by simp [c0,T.consts,T.cons,T.consL,sortI,addK]) (by simp [c0,tz,addAll,T.consts,T.cons,T.consL,sortI,addK]) (by simp [c0,tz,addAll,T.consts,T.cons,T.consL,sortI,addK,okI])
 rwa [uses_c0] at this
structure NS (K:Nat) (todo seen:List Int) (σ:St):Prop where
 s2:σ.sl 2=.c (.ref 1017002 (σ.tg 1017002) 0)
 o2:σ.ob 1017002=some (ebox row0)
 s7:σ.sl 7=.c (.mp 1017020 (σ.tg 1017020))
 o7:σ.ob 1017020=some (.mob true (encK seen))
 s8:σ.sl 8=.c (.own K (σ.tg K))
 o8:σ.ob K=some (hrow todo)
theorem fn1017:Fn Tryz.prog 17 [axs row0,is [1]] (.tup [is [0,1],ib 0]):=by
 refine fn_of (base:=1017000) ok1017 rfl fun σ h0 hr=>?_
 have s0:σ.sl 0=axs row0:=h0 0
 have s1:σ.sl 1=is [1]:=h0 1
 clear h0 hr
 unfold c1017
 simp [s0,s1,axs,is]
 refine ECall.fn (fn1027 row0 (by decide)) (by simp [toD2,toD1,toD,axs]) (by simp) rfl fun _=>?_
 simp [chk_row0,ib,s1,is]
 refine ECall.ro (rs:=[]) (args:=[is [1],.c (.clo 39 [] [(1017002,σ.tg 1017002 + 1)])]) [(1017002,σ.tg 1017002 + 1,ebox row0)] (by simpa [refs] using sp1038 (σ.tg 1017002 + 1) row0 [1]) (by simp [toD2,toD1,is,toD]) (by simp) rfl (Ro.one (by simp [ebox]) (by simp) rfl) fun _=>?_
 have e1:outE row0.length 1=false:=by decide
 simp [e1,bb,s1,is]
 refine ECall.new 1017300 (new1040 1 []) rfl rfl (by simp [toD2,toD1,is,toD]) (by simp) fun hx=>?_
 clear hx
 simp [-W_block]
 rw [W_block]
 refine W_loop (fun m σ=>(m=2 ∧ NS 1017300 [1] [] σ) ∨ (m=1 ∧ NS 1017046 [0] [1] σ) ∨ (m=0 ∧ NS 1017036 [] [1,0] σ)) 2 (.inl ⟨rfl,⟨by simp,by simp [ebox],by simp,by simp [encK],by simp,by simp⟩⟩) ?_
 clear s0 s1 σ
 have w0:IntKind.wrap .i64 (0:Int)=0:=by decide
 rintro m σ (⟨rfl,s2,o2,s7,o7,s8,o8⟩ | ⟨rfl,s2,o2,s7,o7,s8,o8⟩ | ⟨rfl,s2,o2,s7,o7,s8,o8⟩)
 ·unfold c1017b0
  simp [s2,o2,s7,o7,s8,o8,hrow,ic,w0,encK,ebox,mres,mgetL,mval,msetL]
  refine ⟨by simp [room],ECall.fn fn1041_1 (by simp [toD2,toD1,toD,axs,ib]) (by simp) rfl fun hx=>?_⟩
  clear hx
  simp [is]
  refine ⟨by simp [room],1,by omega,.inr (.inl ⟨rfl,⟨by simp [s2],by simp [o2,ebox],by simp [s7],by simp [encK],by simp,by simp [hrow,ic]⟩⟩)⟩
 ·unfold c1017b0
  simp [s2,o2,s7,o7,s8,o8,hrow,ic,w0,encK,ebox,mres,mgetL,mval,msetL]
  refine ⟨by simp [room],ECall.fn fn1041_0 (by simp [toD2,toD1,toD,axs,ib]) (by simp) rfl fun hx=>?_⟩
  clear hx
  simp [is]
  exact ⟨by simp [s2],by simp [o2,ebox],by simp [s7],by simp [encK],by simp,by simp [hrow,ic]⟩
 ·unfold c1017b0
  simp [s2,o2,s7,o7,s8,o8,hrow,ic,w0]
  refine ECall.keys (k:=1017020) (one:=true) (es:=encK [1,0]) (by simp [o7]) (by simp) ?_
  simp
  refine ECall.sorted 1017301 (k:=1017020) (one:=true) (es:=encK [1,0]) (by simp [o7]) (by simp) (by omega) (by simp [encK,okI]) (by simp [encK]) ?_
  simp [r1017,encK_keys,sort_10,isL]
theorem ord_wakes:ord 3 [(2,0)]=([1,2,0],0):=by decide
theorem fn1013:Fn Tryz.prog 13 [] (bb true):=by
 refine fn_of (base:=1013000) ok1013 rfl fun σ h0 hr=>?_
 clear h0 hr
 unfold c1013
 simp [fillC,putC]
 refine ⟨by simp [room],ECall.fn (zn12 3 [(2,0)]) (by simp [toD2,toD1,toD,eds,ecs,ec,ib]) (by simp) rfl fun hx=>?_⟩
 clear hx
 simp [ordAV,ord_wakes,is,ib]
 refine ECall.fn (fn24 0) (by simp [toD2,toD1,toD,ib]) (by simp) rfl fun hx=>?_
 clear hx
 simp [fillC,putC,tm,cells_mk]
 refine ECall.fn (fn1034 0) (by simp [toD2,toD1,toD,ib]) (by simp) rfl fun hx=>?_
 clear hx
 simp [fillC,putC,tm,cells_mk]
 refine ⟨by simp [room],by simp [room],ECall.fn fn1017 (by simp [toD2,toD1,toD,axs,row0,u0,c0,axc,is]) (by simp) rfl fun hx=>?_⟩
 clear hx
 simp [is,ib]
 refine ⟨by simp [room],GCall.fn (fun _=>fn59 [1,2,0] [1,2,0]) (by simp [toD2,toD1,toD,is]) (by simp) rfl fun hx=>?_⟩
 clear hx
 simp [bb]
 refine ⟨by simp [room],GCall.fn (fun _=>fn59 [0,1] [0,1]) (by simp [toD2,toD1,toD,is]) (by simp) rfl fun hx=>?_⟩
 clear hx
 simp [bb,r1013]
end Go.Abs

namespace Go.Abs
open Go.Proofs
def maxF:Int → List Int → Int
 | m,[]=>m
 | m,x :: r=>maxF (best2 true m x) r
def maxI:List Int → Int
 | []=>0
 | x :: r=>maxF x r
theorem fn1126 (x:Int) (r:List Int) (hl:r.length ≤ 1000000000):Fn Tryz.prog 126 [is (x :: r)] (ib (maxI (x :: r))):=by
 refine fn_of (base:=1126000) ok1126 rfl fun σ h0 hr=>?_
 have s0:σ.sl 0=.c (.sl 1 8 (ic (x :: r))):=h0 0
 clear h0 hr
 unfold c1126
 have c1:¬ ((r.length:Int) + 1 < 1):=by omega
 have e0:ic (x :: r)=[Cell.v (.int .i64 x)] :: ic r:=rfl
 simp [s0,c1,e0,-W_block]
 rw [W_block]
 rw [← e0]
 refine W_loop (fun m σ=>∃ i y,i + m=r.length ∧ maxF y (r.drop i)=maxI (x :: r) ∧ σ.sl 0=.c (.sl 1 8 (ic (x :: r))) ∧ σ.sl 3=.c (.v (.int .i64 y)) ∧ σ.sl 4=.c (.v (.int .i64 (i + 1:Nat)))) r.length ?_ ?_
 ·exact ⟨0,x,by simp,by simp [maxI],by simp [s0],by simp,by simp⟩
 clear s0 σ
 rintro m σ ⟨i,y,hm,hp,s0,s3,s4⟩
 unfold c1126b0
 by_cases hi:i < r.length
 ·have w1:=wrap_succ (i:=i + 1) (by omega)
  obtain ⟨z,hz⟩:=at_of hi
  obtain ⟨_,hz2⟩:=getE hz
  rw [drop_at hz,maxF] at hp
  generalize hn:i + 1=n at *
  have hnl:n < (x :: r).length:=by simp;omega
  have hn1:(n:Int) < (r.length:Int) + 1:=by omega
  have hat:(x :: r)[n]'hnl=z:=by subst hn;simpa using hz2
  have hat2:(ic (x :: r))[n]? = some [.v (.int .i64 z)]:=by rw [ic_get hnl,hat]
  simp [s0,s3,s4,hn1,hat2,w1]
  exact ⟨m - 1,by omega,n,by omega,_,hp,rfl,rfl⟩
 ·have:i=r.length:=by omega
  subst this
  simp [maxF] at hp
  simp [s0,s3,s4,r1126,ib,hp]
end Go.Abs

namespace Go.Abs
open Go.Proofs
def aTerms (a:A):List T:=a.typ :: (a.dom ++ a.idx)
def tOf (l:List A):List T:=l.flatMap aTerms
def LT (σ:St) (s:Nat) (l:List T) (Ks:List Nat):Prop:=(σ.sl s=.c (.cap 3 40 []) ∧ l=[]) ∨ ∃ K,K ∈ Ks ∧ σ.sl s=.c (.own K (σ.tg K)) ∧ σ.ob K=some (.row 63 3 40 (l.map T.cells))
def w1125:List (List Nat):=[[],[],[],[],[1125022,1125016],[],[],[1125019,1125016],[],[],[1125022,1125019],[]]
def f1125:List (List Nat):=[[],[],[],[],[],[1125016,1125022],[1125016,1125022],[],[1125016,1125019,1125022],[1125016,1125019,1125022],[],[]]
theorem loop1125 {σ:St} {Q:SEx → St → Prop} (l:List A) (hl:l.length ≤ 12) (hs:∀ a,a ∈ l → a.dom.length ≤ 12 ∧ a.idx.length ≤ 12) (s6:σ.sl 6=.c (.sl 7 104 (l.map A.cells))) (s7:σ.sl 7=.c (.v (.int .i64 l.length))) (s8:σ.sl 8=.c (.v (.int .i64 (0:Nat)))) (s3:σ.sl 3=.c (.cap 3 40 []))
  (hQ:∀ σ',LT σ' 3 (tOf l) [1125022] → Q .normal σ'):W Tryz.prog 1125000 (.loop c1125b0) σ (onBlock 0 Q):=by
 refine W_loop (fun m σ=>∃ i:Nat,i + m=l.length ∧ σ.sl 6=.c (.sl 7 104 (l.map A.cells)) ∧ σ.sl 7=.c (.v (.int .i64 l.length)) ∧ σ.sl 8=.c (.v (.int .i64 i)) ∧ (tOf (l.take i)).length ≤ 25 * i ∧ LT σ 3 (tOf (l.take i)) [1125022]) l.length ⟨0,by simp,s6,s7,s8,by simp [tOf],.inl ⟨s3,by simp [tOf]⟩⟩ ?_
 clear s6 s7 s8 s3 σ
 rintro m σ ⟨i,hm,s6,s7,s8,h25,s3⟩
 unfold c1125b0
 by_cases hi:i < l.length
 ·have w1:=wrap_succ (i:=i) (by omega)
  obtain ⟨a,ha⟩:=at_of hi
  obtain ⟨_,ha2⟩:=getE ha
  obtain ⟨d1,d2⟩:=hs a (List.mem_of_getElem? ha)
  have htk:tOf (l.take (i + 1))=tOf (l.take i) ++ aTerms a:=by rw [take_succ' ha,tOf,List.flatMap_append];simp [tOf]
  have hlen:(aTerms a).length ≤ 25:=by simp [aTerms];omega
  have h25':(tOf (l.take (i + 1))).length ≤ 25 * (i + 1):=by rw [htk,List.length_append];omega
  have hty:∀ x,x ∈ a.typ.cells → x.isD=true:=by rw [cells_eq];simp
  simp [s6,s7,s8,hi,ha2,A.cells]
  refine W_dregD w1125 f1125 (by decide) ?_
  unfold w1125 f1125
  rcases s3 with ⟨s3,e0⟩ | ⟨K,hK,s3,o3⟩
  ·simp [s3,cells_eq a.typ]
   repeat' (with_reducible apply And.intro)
   all_goals first
    | (
     refine realC_n ?_
     simp [s8,w1]
     exact ⟨m - 1,by omega,i + 1,by omega,by simp [s6],by simp [s7],by simp,h25',.inr ⟨1125022,by simp,by simp,by simp [htk,e0,aTerms,cells_eq a.typ]⟩⟩)
    | (simp [room] <;> omega)
  ·simp at hK
   subst hK
   simp [s3,o3,cells_eq a.typ]
   refine ⟨by simp [room] <;> omega,by simp [room] <;> omega,by simp [room] <;> omega,by simp [room] <;> omega,?_⟩
   ·refine realC_n ?_
    simp [s8,w1]
    exact ⟨m - 1,by omega,i + 1,by omega,by simp [s6],by simp [s7],by simp,h25',.inr ⟨1125022,by simp,by simp,by simp [htk,aTerms,cells_eq a.typ]⟩⟩
 ·have:i=l.length:=by omega
  subst this
  rw [List.take_of_length_le (Nat.le_refl _)] at s3
  simp [s6,s7,s8]
  refine hQ _ ?_
  rcases s3 with ⟨s3,e0⟩ | ⟨K,hK,s3,o3⟩
  ·exact .inl ⟨by simp [s3],e0⟩
  ·exact .inr ⟨K,hK,by simp [s3],by simp [o3]⟩
theorem fn1125 (l:List A) (hl:l.length ≤ 12) (hs:∀ a,a ∈ l → a.dom.length ≤ 12 ∧ a.idx.length ≤ 12):Fn Tryz.prog 125 [ams l] (tms (tOf l)):=by
 refine fn_of (base:=1125000) ok1125 rfl fun σ h0 hr=>?_
 have s0:σ.sl 0=ams l:=h0 0
 simp only [ams] at s0
 clear h0 hr
 unfold c1125
 simp [s0]
 refine loop1125 l hl hs (by simp) (by simp) (by simp) (by simp) fun σ' H=>?_
 rcases H with ⟨s3,e0⟩ | ⟨K,hK,s3,o3⟩
 ·simp [s3,e0,r1125,tms]
 ·simp at hK
  subst hK
  simp [s3,o3,r1125,tms]
def tsS (s:S):List T:=s.decType :: tOf s.idx
def tsK (c:K):List T:=c.dec :: (c.idx ++ tOf c.args)
def sT (l:List S):List T:=l.flatMap tsS
def kT (l:List K):List T:=l.flatMap tsK
def B.terms (b:B):List T:=sT b.sorts ++ kT b.cons
def maxC (t:T):Int:=maxI (t.consts ++ [-1])
def nameF:Int → List T → Int
 | m,[]=>m
 | m,t :: r=>nameF (best2 true m (maxC t)) r
def B.names (b:B):Int:=nameF (-1) b.terms
theorem tOf_len {l:List A} (hl:l.length ≤ 12) (hs:∀ a,a ∈ l → a.dom.length ≤ 12 ∧ a.idx.length ≤ 12):(tOf l).length ≤ 300:=by
 have key:∀ (l:List A),(∀ a,a ∈ l → a.dom.length ≤ 12 ∧ a.idx.length ≤ 12) → (tOf l).length ≤ 25 * l.length:=by
  intro l
  induction l with
  | nil=>intro _;simp [tOf]
  | cons a l ih=>
   intro h
   have h1:=h a (by simp)
   have h2:=ih fun x hx=>h x (by simp [hx])
   simp only [tOf,List.flatMap_cons,List.length_append,List.length_cons] at h2 ⊢
   simp only [aTerms,List.length_cons,List.length_append]
   omega
 have:=key l hs
 omega
structure FN (b:B) (σ:St):Prop where
 s1:σ.sl 1=.c (.ref 1093001 (σ.tg 1093001) 0)
 o1:σ.ob 1093001=some (.box 68 b.cells)
def w1093:List (List Nat):=[[],[],[],[],[1093026,1093022],[],[],[],[1093026,1093022],[]]
def f1093:List (List Nat):=[[],[],[],[],[],[1093022,1093026],[1093022,1093026],[],[],[]]
theorem loop1093a {σ:St} {Q:SEx → St → Prop} (b:B) (l:List S) (hl:l.length ≤ 4) (hs:∀ s,s ∈ l → s.idx.length ≤ 12 ∧ ∀ a,a ∈ s.idx → a.dom.length ≤ 12 ∧ a.idx.length ≤ 12) (H:FN b σ) (s12:σ.sl 12=.c (.sl 6 80 (l.map S.cells))) (s13:σ.sl 13=.c (.v (.int .i64 l.length))) (s14:σ.sl 14=.c (.v (.int .i64 (0:Nat)))) (s3:σ.sl 3=.c (.cap 3 40 []))
  (hQ:∀ σ',FN b σ' → LT σ' 3 (sT l) [1093026] → Q .normal σ'):W Tryz.prog 1093000 (.loop c1093b0) σ (onBlock 0 Q):=by
 refine W_loop (fun m σ=>∃ i:Nat,i + m=l.length ∧ FN b σ ∧ σ.sl 12=.c (.sl 6 80 (l.map S.cells)) ∧ σ.sl 13=.c (.v (.int .i64 l.length)) ∧ σ.sl 14=.c (.v (.int .i64 i)) ∧ (sT (l.take i)).length ≤ 301 * i ∧ LT σ 3 (sT (l.take i)) [1093026]) l.length ⟨0,by simp,H,s12,s13,s14,by simp [sT],.inl ⟨s3,by simp [sT]⟩⟩ ?_
 clear H s12 s13 s14 s3 σ
 rintro m σ ⟨i,hm,⟨s1,o1⟩,s12,s13,s14,h25,s3⟩
 unfold c1093b0
 by_cases hi:i < l.length
 ·have w1:=wrap_succ (i:=i) (by omega)
  obtain ⟨s,ha⟩:=at_of hi
  obtain ⟨_,ha2⟩:=getE ha
  obtain ⟨d1,d2⟩:=hs s (List.mem_of_getElem? ha)
  have hto:=tOf_len d1 d2
  have htk:sT (l.take (i + 1))=sT (l.take i) ++ tsS s:=by rw [take_succ' ha,sT,List.flatMap_append];simp [sT]
  have hlen:(tsS s).length ≤ 301:=by simp [tsS];omega
  have h25':(sT (l.take (i + 1))).length ≤ 301 * (i + 1):=by rw [htk,List.length_append];omega
  generalize sT (l.take i)=acc at *
  have hr:=fn1125 s.idx d1 d2
  simp [s12,s13,s14,hi,ha2,S.cells]
  refine W_dregD w1093 f1093 (by decide) ?_
  unfold w1093 f1093
  rcases s3 with ⟨s3,e0⟩ | ⟨K,hK,s3,o3⟩
  ·simp [s3,cells_eq s.decType]
   refine ⟨by simp [room] <;> omega,?_⟩
   refine CallD.fn hr (by simp [ams]) (by simp) rfl (by simp) ?_
   simp [tms]
   refine ⟨by simp [room] <;> omega,realC_n ?_⟩
   simp [s14,w1]
   exact ⟨m - 1,by omega,i + 1,by omega,⟨by simp [s1],by simp [o1]⟩,by simp [s12],by simp [s13],by simp,h25',.inr ⟨1093026,by simp,by simp,by simp [htk,e0,tsS,cells_eq s.decType]⟩⟩
  ·simp at hK
   subst hK
   simp [s3,o3,cells_eq s.decType]
   refine ⟨by simp [room] <;> omega,by simp [room] <;> omega,?_⟩
   refine CallD.fn hr (by simp [ams]) (by simp) rfl (by simp) ?_
   simp [tms]
   refine ⟨by simp [room] <;> omega,realC_n ?_⟩
   simp [s14,w1]
   exact ⟨m - 1,by omega,i + 1,by omega,⟨by simp [s1],by simp [o1]⟩,by simp [s12],by simp [s13],by simp,h25',.inr ⟨1093026,by simp,by simp,by simp [htk,tsS,cells_eq s.decType]⟩⟩
 ·have:i=l.length:=by omega
  subst this
  rw [List.take_of_length_le (Nat.le_refl _)] at s3
  simp [s12,s13,s14]
  refine hQ _ ⟨by simp [s1],by simp [o1]⟩ ?_
  rcases s3 with ⟨s3,e0⟩ | ⟨K,hK,s3,o3⟩
  ·exact .inl ⟨by simp [s3],e0⟩
  ·exact .inr ⟨K,hK,by simp [s3],by simp [o3]⟩
end Go.Abs

namespace Go.Abs
open Go.Proofs
def w1093k:List (List Nat):=[[],[],[],[],[1093026,1093046,1093039],[],[],[1093042,1093039],[],[],[],[1093046,1093042],[]]
def f1093k:List (List Nat):=[[],[],[],[],[],[1093026,1093046,1093039],[1093026,1093046,1093039],[],[1093026,1093046,1093039,1093042],[1093026,1093046,1093039,1093042],[],[],[]]
theorem loop1093b {σ:St} {Q:SEx → St → Prop} (b:B) (pr:List T) (hpr:pr.length ≤ 2000) (l:List K) (hl:l.length ≤ 8) (hs:∀ s,s ∈ l → s.idx.length ≤ 12 ∧ s.args.length ≤ 12 ∧ ∀ a,a ∈ s.args → a.dom.length ≤ 12 ∧ a.idx.length ≤ 12) (H:FN b σ) (s29:σ.sl 29=.c (.sl 6 96 (l.map K.cells))) (s30:σ.sl 30=.c (.v (.int .i64 l.length))) (s31:σ.sl 31=.c (.v (.int .i64 (0:Nat)))) (s3:LT σ 3 pr [1093026])
  (hQ:∀ σ',LT σ' 3 (pr ++ kT l) [1093026,1093046] → Q .normal σ'):W Tryz.prog 1093000 (.loop c1093b1) σ (onBlock 2 Q):=by
 have s3':LT σ 3 pr [1093026,1093046]:=by
  rcases s3 with h | ⟨K,hK,h⟩
  ·exact .inl h
  ·exact .inr ⟨K,by simp at hK;simp [hK],h⟩
 refine W_loop (fun m σ=>∃ i:Nat,i + m=l.length ∧ FN b σ ∧ σ.sl 29=.c (.sl 6 96 (l.map K.cells)) ∧ σ.sl 30=.c (.v (.int .i64 l.length)) ∧ σ.sl 31=.c (.v (.int .i64 i)) ∧ (kT (l.take i)).length ≤ 313 * i ∧ LT σ 3 (pr ++ kT (l.take i)) [1093026,1093046]) l.length ⟨0,by simp,H,s29,s30,s31,by simp [kT],by simpa [kT] using s3'⟩ ?_
 clear H s29 s30 s31 s3 s3' σ
 rintro m σ ⟨i,hm,⟨s1,o1⟩,s29,s30,s31,h25,s3⟩
 unfold c1093b1
 by_cases hi:i < l.length
 ·have w1:=wrap_succ (i:=i) (by omega)
  obtain ⟨s,ha⟩:=at_of hi
  obtain ⟨_,ha2⟩:=getE ha
  obtain ⟨d0,d1,d2⟩:=hs s (List.mem_of_getElem? ha)
  have hto:=tOf_len d1 d2
  have htk:kT (l.take (i + 1))=kT (l.take i) ++ tsK s:=by rw [take_succ' ha,kT,List.flatMap_append];simp [kT]
  have hlen:(tsK s).length ≤ 313:=by simp [tsK];omega
  have h25':(kT (l.take (i + 1))).length ≤ 313 * (i + 1):=by rw [htk,List.length_append];omega
  have hacc:(pr ++ kT (l.take i)).length ≤ 6000:=by rw [List.length_append];omega
  have htk':pr ++ kT (l.take (i + 1))=(pr ++ kT (l.take i)) ++ tsK s:=by rw [htk,List.append_assoc]
  generalize pr ++ kT (l.take i)=acc at *
  have hr:=fn1125 s.args d1 d2
  simp [s29,s30,s31,hi,ha2,K.cells]
  refine W_dregD w1093k f1093k (by decide) ?_
  unfold w1093k f1093k
  rcases s3 with ⟨s3,e0⟩ | ⟨K,hK,s3,o3⟩
  ·simp [s3,cells_eq s.dec]
   refine ⟨by simp [room] <;> omega,by simp [room] <;> omega,?_⟩
   refine CallD.fn hr (by simp [ams]) (by simp) rfl (by simp) ?_
   simp [tms]
   refine ⟨by simp [room] <;> omega,realC_n ?_⟩
   simp [s31,w1]
   exact ⟨m - 1,by omega,i + 1,by omega,⟨by simp [s1],by simp [o1]⟩,by simp [s29],by simp [s30],by simp,h25',by rw [htk',e0];exact .inr ⟨1093046,by simp,by simp,by simp [tsK,cells_eq s.dec]⟩⟩
  ·simp at hK
   rcases hK with rfl | rfl <;>
   ·simp [s3,o3,cells_eq s.dec]
    refine ⟨by simp [room] <;> omega,by simp [room] <;> omega,by simp [room] <;> omega,?_⟩
    refine CallD.fn hr (by simp [ams]) (by simp) rfl (by simp) ?_
    simp [tms]
    refine ⟨by simp [room] <;> omega,realC_n ?_⟩
    simp [s31,w1]
    exact ⟨m - 1,by omega,i + 1,by omega,⟨by simp [s1],by simp [o1]⟩,by simp [s29],by simp [s30],by simp,h25',by rw [htk'];exact .inr ⟨1093046,by simp,by simp,by simp [tsK,cells_eq s.dec]⟩⟩
 ·have:i=l.length:=by omega
  subst this
  rw [List.take_of_length_le (Nat.le_refl _)] at s3
  simp [s29,s30,s31]
  refine hQ _ ?_
  rcases s3 with ⟨s3,e0⟩ | ⟨K,hK,s3,o3⟩
  ·exact .inl ⟨by simp [s3],e0⟩
  ·exact .inr ⟨K,hK,by simp [s3],by simp [o3]⟩
theorem consts_len {t:T} (h:t.ok):t.consts.length ≤ 1048576:=by
 have:=(cons_facts t []).1
 have h1:=h.1
 simp only [T.consts,sortI,(List.mergeSort_perm _ _).length_eq]
 simp at this
 omega
theorem loop1093c {σ:St} {Q:SEx → St → Prop} (ts:List T) (hl:ts.length ≤ 100000) (ho:∀ t,t ∈ ts → t.ok) (K:Nat) (hK:K=1093026 ∨ K=1093046) (s48:σ.sl 48=.c (.own K (σ.tg K))) (oK:σ.ob K=some (.row 63 3 40 (ts.map T.cells))) (s49:σ.sl 49=.c (.v (.int .i64 ts.length))) (s50:σ.sl 50=.c (.v (.int .i64 (0:Nat)))) (s8:σ.sl 8=.c (.v (.int .i64 (-1))))
  (hQ:∀ σ',σ'.sl 8=.c (.v (.int .i64 (nameF (-1) ts))) → Q .normal σ'):W Tryz.prog 1093000 (.loop c1093b2) σ (onBlock 4 Q):=by
 refine W_loop (fun m σ=>∃ i y,i + m=ts.length ∧ nameF y (ts.drop i)=nameF (-1) ts ∧ σ.sl 48=.c (.own K (σ.tg K)) ∧ σ.ob K=some (.row 63 3 40 (ts.map T.cells)) ∧ σ.sl 49=.c (.v (.int .i64 ts.length)) ∧ σ.sl 50=.c (.v (.int .i64 (i:Nat))) ∧ σ.sl 8=.c (.v (.int .i64 y))) ts.length ⟨0,-1,by simp,by simp,s48,oK,s49,s50,s8⟩ ?_
 clear s48 oK s49 s50 s8 σ
 rintro m σ ⟨i,y,hm,hp,s48,oK,s49,s50,s8⟩
 unfold c1093b2
 by_cases hi:i < ts.length
 ·have w1:=wrap_succ (i:=i) (by omega)
  obtain ⟨t,ht⟩:=at_of hi
  obtain ⟨_,ht2⟩:=getE ht
  have hto:=ho t (List.mem_of_getElem? ht)
  have hcl:=consts_len hto
  rw [drop_at ht,nameF] at hp
  obtain ⟨x,r,hxr⟩:∃ x r,t.consts ++ [-1]=x :: r:=by
   cases h:t.consts with
   | nil=>exact ⟨_,_,rfl⟩
   | cons a l=>exact ⟨_,_,rfl⟩
  have hrl:r.length ≤ 1000000000:=by
   have:(t.consts ++ [-1]).length=(x :: r).length:=by rw [hxr]
   simp at this;omega
  have hmax:maxC t=maxI (x :: r):=by rw [maxC,hxr]
  have hf:=fn1126 x r hrl
  rw [← hmax,← hxr] at hf
  rcases hK with rfl | rfl <;>
  ·simp [s48,oK,s49,s50,s8,hi,ht2,cells_eq t]
   refine ECall.new 1093300 (sp60 t hto.1 hto.2) rfl rfl (by simp [tm,cells_eq t]) (by simp) fun hx=>?_
   clear hx
   simp [fillC,putC]
   refine ⟨by simp [room],by simp [room,isL];omega,?_⟩
   refine ECall.fn hf (by simp [toD2,toD1,toD,is,isL]) (by simp) rfl fun hx=>?_
   simp [s8,ib,s50,w1]
   exact ⟨m - 1,by omega,i + 1,by omega,best2 true y (maxC t),hp,by simp [s48],by simp [oK],by simp [s49],by simp,by simp⟩
 ·have:i=ts.length:=by omega
  subst this
  simp [nameF] at hp
  simp [s49,s50]
  exact hQ _ (by simp [s8,hp])
theorem right_len {b:B} (hb:b.Fit) {a:A} {i:Nat} (h:a.right b i=true):a.dom.length ≤ 12 ∧ a.idx.length ≤ 12:=by
 unfold A.right at h
 split at h
 ·simp only [Bool.and_eq_true,Bool.not_eq_true'] at h
  have h1:=h.1.1
  simp only [badRec,Bool.or_eq_false_iff,decide_eq_false_iff_not] at h1
  obtain ⟨⟨⟨⟨q1,q2⟩,q3⟩,q4⟩,q5⟩:=h1
  have q5':a.idx.length=(sIdx b a.sort).length:=by omega
  have:(sIdx b a.sort).length ≤ 12:=by
   unfold sIdx
   cases e:b.sorts[a.sort.toNat]? with
   | none=>simp
   | some s=>exact hb.srt s (List.mem_of_getElem? e)
  omega
 ·simp only [Bool.and_eq_true] at h
  have:=of_decide_eq_true h.1.2
  omega
theorem rowA_len {b:B} (hb:b.Fit):∀ {l:List A} {i:Nat},rowA b l i=true → ∀ a,a ∈ l → a.dom.length ≤ 12 ∧ a.idx.length ≤ 12
 | [],_,_,a,h=>by cases h
 | a :: l,i,h,x,hx=>by
  rw [rowA,Bool.and_eq_true] at h
  rcases List.mem_cons.1 hx with rfl | hx
  ·exact right_len hb h.1
  ·exact rowA_len hb h.2 x hx
theorem rowOk_len {b:B} (hb:b.Fit) {l:List A} (h:rowOk b l=true):l.length ≤ 12 ∧ ∀ a,a ∈ l → a.dom.length ≤ 12 ∧ a.idx.length ≤ 12:=by
 unfold rowOk at h
 rw [Bool.and_eq_true] at h
 exact ⟨of_decide_eq_true h.1,rowA_len hb h.2⟩
theorem sT_len {l:List S} (hl:l.length ≤ 4) (h:∀ s,s ∈ l → (tsS s).length ≤ 301):(sT l).length ≤ 1204:=by
 have key:∀ (l:List S),(∀ s,s ∈ l → (tsS s).length ≤ 301) → (sT l).length ≤ 301 * l.length:=by
  intro l
  induction l with
  | nil=>intro _;simp [sT]
  | cons a l ih=>
   intro h
   have h1:=h a (by simp)
   have h2:=ih fun x hx=>h x (by simp [hx])
   simp only [sT,List.flatMap_cons,List.length_append,List.length_cons] at h2 ⊢
   omega
 have:=key l h
 omega
theorem kT_len {l:List K} (hl:l.length ≤ 8) (h:∀ s,s ∈ l → (tsK s).length ≤ 313):(kT l).length ≤ 2504:=by
 have key:∀ (l:List K),(∀ s,s ∈ l → (tsK s).length ≤ 313) → (kT l).length ≤ 313 * l.length:=by
  intro l
  induction l with
  | nil=>intro _;simp [kT]
  | cons a l ih=>
   intro h
   have h1:=h a (by simp)
   have h2:=ih fun x hx=>h x (by simp [hx])
   simp only [kT,List.flatMap_cons,List.length_append,List.length_cons] at h2 ⊢
   omega
 have:=key l h
 omega
theorem tOf_ok {l:List A} (h:∀ a,a ∈ l → a.Ok):∀ t,t ∈ tOf l → t.ok:=by
 intro t ht
 simp only [tOf,List.mem_flatMap,aTerms,List.mem_cons,List.mem_append] at ht
 obtain ⟨a,ha,rfl | h2 | h2⟩:=ht
 ·exact (h a ha).typ
 ·exact (h a ha).dom t h2
 ·exact (h a ha).idx t h2
theorem terms_ok {b:B} (h:b.Ok):∀ t,t ∈ b.terms → t.ok:=by
 intro t ht
 rcases List.mem_append.1 ht with ht | ht
 ·simp only [sT,List.mem_flatMap,tsS,List.mem_cons] at ht
  obtain ⟨s,hs,rfl | h2⟩:=ht
  ·exact (h.sorts s hs).dec
  ·exact tOf_ok (h.sorts s hs).idx t h2
 ·simp only [kT,List.mem_flatMap,tsK,List.mem_cons,List.mem_append] at ht
  obtain ⟨s,hs,rfl | h2 | h2⟩:=ht
  ·exact (h.cons s hs).dec
  ·exact (h.cons s hs).idx t h2
  ·exact tOf_ok (h.cons s hs).args t h2
theorem fn1093 (b:B) (hF:b.Form) (hO:b.Ok) (hn:0 < b.sorts.length):Fn Tryz.prog 93 [bm b] (ib b.names):=by
 have hb:=hF.fit
 have hs1:∀ s,s ∈ b.sorts → s.idx.length ≤ 12 ∧ ∀ a,a ∈ s.idx → a.dom.length ≤ 12 ∧ a.idx.length ≤ 12:=fun s hs=>rowOk_len hb (hF.srt s hs)
 have hc1:∀ s,s ∈ b.cons → s.idx.length ≤ 12 ∧ s.args.length ≤ 12 ∧ ∀ a,a ∈ s.args → a.dom.length ≤ 12 ∧ a.idx.length ≤ 12:=fun c hc=>by
  obtain ⟨q1,q2,q3,q4⟩:=hF.con c hc
  refine ⟨?_,rowOk_len hb q3⟩
  rw [q4]
  unfold sAt
  cases e:b.sorts[c.sort.toNat]? with
  | none=>simp
  | some s=>exact hb.srt s (List.mem_of_getElem? e)
 have hsl:=sT_len hF.ns fun s hs=>by have:=tOf_len (hs1 s hs).1 (hs1 s hs).2;simp [tsS];omega
 have hkl:=kT_len hF.nc fun c hc=>by have:=tOf_len (hc1 c hc).2.1 (hc1 c hc).2.2;have:=(hc1 c hc).1;simp [tsK];omega
 refine fn_of (base:=1093000) ok1093 rfl fun σ h0 hr=>?_
 have s0:σ.sl 0=bm b:=h0 0
 simp only [bm] at s0
 clear h0 hr
 unfold c1093
 simp [s0,B.cells]
 refine loop1093a b b.sorts hF.ns hs1 ⟨by simp,by simp [B.cells]⟩ (by simp) (by simp) (by simp) (by simp) fun σ1 H1 L1=>?_
 clear s0 σ
 obtain ⟨s1,o1⟩:=H1
 simp [s1,o1,B.cells]
 refine loop1093b b (sT b.sorts) (by omega) b.cons hF.nc hc1 ⟨by simp [s1],by simp [o1,B.cells]⟩ (by simp) (by simp) (by simp) ?_ fun σ2 L2=>?_
 ·rcases L1 with ⟨h1,h2⟩ | ⟨K,hK,h1,h2⟩
  ·exact .inl ⟨by simp [h1],h2⟩
  ·exact .inr ⟨K,hK,by simp [h1],by simp [h2]⟩
 clear L1 s1 o1 σ1
 rw [show sT b.sorts ++ kT b.cons=b.terms from rfl] at L2
 have htl:b.terms.length ≤ 100000:=by rw [B.terms,List.length_append];omega
 rcases L2 with ⟨h1,h2⟩ | ⟨K,hK,h1,h2⟩
 ·exfalso
  have:0 < b.terms.length:=by
   rw [B.terms,List.length_append]
   cases e:b.sorts with
   | nil=>simp [e] at hn
   | cons s l=>simp [sT,tsS];omega
  rw [h2] at this;simp at this
 ·have hok:=terms_ok hO
  simp at hK
  rcases hK with rfl | rfl
  ·simp [h1,h2]
   refine loop1093c b.terms htl hok 1093026 (by simp) (by simp) (by simp [h2]) (by simp) (by simp) (by simp) fun σ' q8=>?_
   simp [q8,r1093,ib,B.names]
  ·simp [h1,h2]
   refine loop1093c b.terms htl hok 1093046 (by simp) (by simp) (by simp [h2]) (by simp) (by simp) (by simp) fun σ' q8=>?_
   simp [q8,r1093,ib,B.names]
end Go.Abs

namespace Go.Abs
open Go.Proofs
structure En where
 kind:Int
 typ:T
 body:T
 base:Int
 which:Int
 block:B
def En.cells (e:En):List Cell:=[.v (.int .i64 e.kind),.v (.int .i64 e.typ.kind),.v (.int .i64 e.typ.val),.sl 3 40 (e.typ.kids.map T.cells),.v (.int .i64 e.body.kind),.v (.int .i64 e.body.val),.sl 3 40 (e.body.kids.map T.cells),
 .v (.int .i64 e.base),.v (.int .i64 e.which),.sl 6 80 (e.block.sorts.map S.cells),.sl 6 96 (e.block.cons.map K.cells),.v (.int .i64 e.block.elim)]
def enm (e:En):AV:=.agg e.cells
def ens (l:List En):AV:=.c (.sl 12 160 (l.map En.cells))
theorem real_enb {e:En} (h:Real (enm e)):e.block.sorts.length * 80 ≤ 140737488355328 ∧ e.block.cons.length * 96 ≤ 140737488355328:=by
 have h1:=real_cell h (show .sl 6 80 (e.block.sorts.map S.cells) ∈ e.cells by simp [En.cells])
 have h2:=real_cell h (show .sl 6 96 (e.block.cons.map K.cells) ∈ e.cells by simp [En.cells])
 exact ⟨by simpa [room] using h1,by simpa [room] using h2⟩
theorem real_ens {l:List En} (h:Real (ens l)):l.length * 160 ≤ 140737488355328:=by simpa [room] using real_sl h
def B.bare (b:B):Bool:=decide (b.sorts.length + b.cons.length=0) && decide (b.elim=0)
theorem fn1082g (b:B):Fn Tryz.prog 82 [bm b] (bb b.bare):=by
 refine fn_of (base:=1082000) ok1082 rfl fun σ h0 hr=>?_
 have s0:σ.sl 0=bm b:=h0 0
 have hl1:=real_b1 (hr (bm b) (by simp))
 have hl2:=real_b2 (hr (bm b) (by simp))
 simp only [bm,B.cells] at s0
 clear h0 hr
 unfold c1082
 have w0:IntKind.wrap .i64 ((b.sorts.length:Int) + b.cons.length)=((b.sorts.length + b.cons.length:Nat):Int):=by rw [wrap_id (by omega) (by omega)];omega
 generalize hn:b.sorts.length + b.cons.length=n at *
 by_cases c1:n=0
 ·have c1':(n:Int)=0:=by omega
  simp [s0,w0,c1,c1',r1082,bb,B.bare,hn]
 ·have c1':¬ (n:Int)=0:=by omega
  simp [s0,w0,c1,c1',r1082,bb,B.bare,hn]
def En.number (e:En):Int:=if e.kind=3 then e.block.former e.base e.which else if e.kind=4 then e.block.decoder e.base e.which else if e.kind=5 then e.block.constr e.base e.which else e.block.elimn e.base e.which
theorem fn1084 (e:En):Fn Tryz.prog 84 [enm e] (ib e.number):=by
 refine fn_of (base:=1084000) ok1084 rfl fun σ h0 hr=>?_
 have s0:σ.sl 0=enm e:=h0 0
 simp only [enm,En.cells] at s0
 clear h0 hr
 unfold c1084
 by_cases k3:e.kind=3
 ·simp [s0,k3]
  refine ECall.fn (fn1114 e.block e.base e.which) (by simp [bm,B.cells,ib]) (by simp) rfl fun _=>?_
  simp [r1084,ib,En.number,k3]
 ·by_cases k4:e.kind=4
  ·simp [s0,k3,k4]
   refine ECall.fn (fn1115 e.block e.base e.which) (by simp [bm,B.cells,ib]) (by simp) rfl fun _=>?_
   simp [r1084,ib,En.number,k3,k4]
  ·by_cases k5:e.kind=5
   ·simp [s0,k3,k4,k5]
    refine ECall.fn (fn1116 e.block e.base e.which) (by simp [bm,B.cells,ib]) (by simp) rfl fun _=>?_
    simp [r1084,ib,En.number,k3,k4,k5]
   ·simp [s0,k3,k4,k5]
    refine ECall.fn (fn1117 e.block e.base e.which) (by simp [bm,B.cells,ib]) (by simp) rfl fun _=>?_
    simp [r1084,ib,En.number,k3,k4,k5]
def En.right (e:En) (i:Int):Bool:=e.typ.scope 0 i &&
 (if e.kind=1 then decide (e.base=0) && decide (e.which=0) && e.block.bare && e.body.none
 else if e.kind=2 then decide (e.base=0) && decide (e.which=0) && e.block.bare && e.body.scope 0 i
 else if e.kind=3 ∨ e.kind=4 ∨ e.kind=5 ∨ e.kind=6 then e.body.none && decide (0 ≤ e.base) && decide (e.number=i) else false)
theorem fn1052g (e:En) (i:Int):Fn Tryz.prog 52 [enm e,ib i] (bb (e.right i)):=by
 refine fn_of (base:=1052000) ok1052 rfl fun σ h0 hr=>?_
 have s0:σ.sl 0=enm e:=h0 0
 have s1:σ.sl 1=.c (.v (.int .i64 i)):=h0 1
 simp only [enm,En.cells] at s0
 clear h0 hr
 unfold c1052
 simp [s0,s1]
 refine ECall.fn (fn30 e.typ 0 i) (by simp [tm,ib,cells_eq]) (by simp) rfl fun _=>?_
 cases hs:e.typ.scope 0 i with
 | false=>simp [bb,r1052,En.right,hs]
 | true=>
  have hb:=fn1082g e.block
  have hn:=fn1083g e.body
  have hsc:=fn30 e.body 0 i
  have hnum:=fn1084 e
  by_cases k1:e.kind=1
  ·simp [bb,k1]
   by_cases c1:e.base=0
   ·by_cases c2:e.which=0
    ·simp [c1,c2]
     refine GCall.fn (fun _=>hb) (by simp [bm,B.cells]) (by simp) rfl fun _=>?_
     simp [bb]
     refine GCall.fn (fun _=>hn) (by simp [tm,cells_eq]) (by simp) rfl fun _=>?_
     simp [bb,r1052,En.right,hs,k1,c1,c2]
    ·simp [c1,c2]
     refine GCall.fn (fun _=>hb) (by simp [bm,B.cells]) (by simp) rfl fun _=>?_
     simp [bb]
     refine GCall.fn (fun _=>hn) (by simp [tm,cells_eq]) (by simp) rfl fun _=>?_
     simp [bb,r1052,En.right,hs,k1,c1,c2]
   ·simp [c1]
    refine GCall.fn (fun _=>hb) (by simp [bm,B.cells]) (by simp) rfl fun _=>?_
    simp [bb]
    refine GCall.fn (fun _=>hn) (by simp [tm,cells_eq]) (by simp) rfl fun _=>?_
    simp [bb,r1052,En.right,hs,k1,c1]
  ·by_cases k2:e.kind=2
   ·simp [bb,k1,k2]
    by_cases c1:e.base=0
    ·by_cases c2:e.which=0
     ·simp [c1,c2]
      refine GCall.fn (fun _=>hb) (by simp [bm,B.cells]) (by simp) rfl fun _=>?_
      simp [bb,s1]
      refine GCall.fn (fun _=>hsc) (by simp [tm,cells_eq,ib]) (by simp) rfl fun _=>?_
      simp [bb,r1052,En.right,hs,k1,k2,c1,c2]
     ·simp [c1,c2]
      refine GCall.fn (fun _=>hb) (by simp [bm,B.cells]) (by simp) rfl fun _=>?_
      simp [bb,s1]
      refine GCall.fn (fun _=>hsc) (by simp [tm,cells_eq,ib]) (by simp) rfl fun _=>?_
      simp [bb,r1052,En.right,hs,k1,k2,c1,c2]
    ·simp [c1]
     refine GCall.fn (fun _=>hb) (by simp [bm,B.cells]) (by simp) rfl fun _=>?_
     simp [bb,s1]
     refine GCall.fn (fun _=>hsc) (by simp [tm,cells_eq,ib]) (by simp) rfl fun _=>?_
     simp [bb,r1052,En.right,hs,k1,k2,c1]
   ·by_cases k36:e.kind=3 ∨ e.kind=4 ∨ e.kind=5 ∨ e.kind=6
    ·have hdef:e.right i=(e.body.none && decide (0 ≤ e.base) && decide (e.number=i)):=by
      unfold En.right
      rw [hs,if_neg k1,if_neg k2,if_pos k36,Bool.true_and]
     rw [hdef]
     rcases k36 with k3 | k3 | k3 | k3 <;>
     ·simp [bb,k3]
      refine ECall.fn hn (by simp [tm,cells_eq]) (by simp) rfl fun _=>?_
      cases hnn:e.body.none with
      | false=>
       simp [bb]
       refine GCall.fn (fun _=>hnum) (by simp [enm,En.cells,k3]) (by simp) rfl fun _=>?_
       simp [bb,s1,ib,r1052]
      | true=>
       by_cases c1:0 ≤ e.base
       ·simp [bb,c1]
        refine GCall.fn (fun _=>hnum) (by simp [enm,En.cells,k3]) (by simp) rfl fun _=>?_
        simp [bb,s1,ib,r1052]
       ·simp [bb,c1]
        refine GCall.fn (fun _=>hnum) (by simp [enm,En.cells,k3]) (by simp) rfl fun _=>?_
        simp [bb,s1,ib,r1052]
    ·have h3:e.kind ≠ 3:=fun h=>k36 (by simp [h])
     have h4:e.kind ≠ 4:=fun h=>k36 (by simp [h])
     have h5:e.kind ≠ 5:=fun h=>k36 (by simp [h])
     have h6:e.kind ≠ 6:=fun h=>k36 (by simp [h])
     simp [bb,k1,k2,h3,h4,h5,h6,r1052,En.right]
def B.known (b:B) (base:Int):Bool:=decide (b.posit base=0) && decide (b.names < base + b.count)
theorem posit_facts {b:B} {base:Int} (h:b.posit base=0):b.Form ∧ 0 < b.sorts.length ∧ 0 ≤ base ∧ base ≤ 65535:=by
 unfold B.posit at h
 by_cases hs:b.shape=0
 ·rw [if_neg (by simp [hs])] at h
  by_cases hb:base < 0 ∨ 65535 < base
  ·rw [if_pos hb] at h;cases h
  ·refine ⟨shape_form hs,?_,by omega,by omega⟩
   have hb:b.shapeB=true:=by
    unfold B.shape at hs
    split at hs
    ·assumption
    ·cases hs
   simp only [B.shapeB,Bool.and_eq_true,Bool.not_eq_true',Bool.or_eq_false_iff,decide_eq_false_iff_not] at hb
   omega
 ·rw [if_pos hs] at h;exact absurd h hs
theorem fn1054 (b:B) (base:Int) (hO:b.Ok):Fn Tryz.prog 54 [bm b,ib base] (bb (b.known base)):=by
 refine fn_of (base:=1054000) ok1054 rfl fun σ h0 hr=>?_
 have s0:σ.sl 0=bm b:=h0 0
 have s1:σ.sl 1=.c (.v (.int .i64 base)):=h0 1
 have hl1:=real_b1 (hr (bm b) (by simp))
 have hl2:=real_b2 (hr (bm b) (by simp))
 simp only [bm,B.cells] at s0
 clear h0 hr
 unfold c1054
 have hct:=fn1094 b
 simp [s0,s1]
 refine W_dregA ?_
 simp [s0,s1]
 refine CallA.fn (fn1092 b base hO) (by simp [bm,B.cells,ib]) (by simp) rfl ?_
 by_cases hp:b.posit base=0
 ·obtain ⟨hF,hn,hb0,hb1⟩:=posit_facts hp
  have hnm:=fn1093 b hF hO hn
  have hle:=decs_le b.sorts b.sorts.length
  have w1:IntKind.wrap .i64 (base + (b.count:Int))=base + b.count:=by
   have:b.count ≤ 1000000000000000:=by unfold B.count;omega
   exact wrap_id (by omega) (by omega)
  simp [ib,hp]
  refine GCallA.fn (fun _=>hnm) (by simp [bm,B.cells]) (by simp) rfl ?_
  simp [ib,s1]
  refine GCallA.fn (fun _=>hct) (by simp [bm,B.cells]) (by simp) rfl ?_
  simp [ib,w1]
  refine realC_n ?_
  simp [r1054,bb,B.known,hp]
 ·simp [ib,hp]
  refine GCallA.fn (res:=ib 0) (fun h=>by cases h) rfl (by simp) rfl ?_
  simp [ib,s1]
  refine GCallA.fn (fun _=>hct) (by simp [bm,B.cells]) (by simp) rfl ?_
  simp [ib]
  refine realC_n ?_
  simp [r1054,bb,B.known,hp]
end Go.Abs

namespace Go.Abs
open Go.Proofs
structure En.Ok (e:En):Prop where
 typ:e.typ.ok
 body:e.body.ok
 block:e.block.Ok
abbrev BM:=List (Int × B)
def enB (ms:BM):List (Int × List Cell):=ms.map fun p=>(p.1,p.2.cells)
def getM (ms:BM) (n:Int):Option B:=(ms.find? fun p=>p.1 == n).map (·.2)
def setM (ms:BM) (n:Int) (b:B):BM:=match ms.findIdx? (fun p=>p.1 == n) with
 | some j=>ms.set j (n,b)
 | none=>ms ++ [(n,b)]
theorem getM_enB (ms:BM) (n:Int):mgetL (enB ms) n=(getM ms n).map B.cells:=by
 induction ms with
 | nil=>rfl
 | cons p ms ih=>
  simp only [mgetL,getM,enB,List.map_cons,List.find?_cons] at ih ⊢
  by_cases h:(p.1 == n)=true
  ·simp [h]
  ·simp only [h];exact ih
theorem setM_enB (ms:BM) (n:Int) (b:B):msetL (enB ms) n b.cells=enB (setM ms n b):=by
 have h:(enB ms).findIdx? (fun p=>p.1 == n)=ms.findIdx? (fun p=>p.1 == n):=by
  induction ms with
  | nil=>rfl
  | cons p ms ih=>
   simp only [enB,List.map_cons,List.findIdx?_cons] at ih ⊢
   rw [ih]
 unfold msetL setM
 rw [h]
 cases ms.findIdx? (fun p=>p.1 == n) with
 | some j=>simp [enB,List.map_set]
 | none=>simp [enB]
def chkE:List En → Nat → BM → Int
 | [],_,_=>0
 | e :: l,i,ms=>if e.right i=false then 12 else if e.kind < 3 then chkE l (i + 1) ms else
  match getM ms e.base with
  | some b=>if b.eqb e.block then chkE l (i + 1) (setM ms e.base e.block) else 12
  | none=>if e.block.known e.base then chkE l (i + 1) (setM ms e.base e.block) else 12
def chkR (l:List En):Int:=if 200 < l.length then 13 else chkE l 0 []
theorem fn1027g (l:List En) (hO:∀ e,e ∈ l → e.Ok):Fn Tryz.prog 27 [ens l] (ib (chkR l)):=by
 refine fn_of (base:=1027000) ok1027 rfl fun σ h0 hr=>?_
 have s0:σ.sl 0=.c (.sl 12 160 (l.map En.cells)):=h0 0
 clear h0 hr
 unfold c1027
 by_cases hl:200 < l.length
 ·have hl':(200:Int) < l.length:=by omega
  simp [s0,hl,hl',r1027,ib,chkR]
 ·have hl':¬ (200:Int) < l.length:=by omega
  have hdef:chkR l=chkE l 0 []:=by rw [chkR,if_neg hl]
  rw [hdef]
  simp [s0,hl',-W_block]
  rw [W_block]
  refine W_loop (fun m σ=>∃ i ms,i + m=l.length ∧ chkE (l.drop i) i ms=chkE l 0 [] ∧ σ.sl 3=.c (.mp 1027011 (σ.tg 1027011)) ∧ σ.ob 1027011=some (.mob false (enB ms)) ∧ σ.sl 12=.c (.sl 12 160 (l.map En.cells)) ∧ σ.sl 13=.c (.v (.int .i64 l.length)) ∧ σ.sl 14=.c (.v (.int .i64 (i:Nat)))) l.length ?_ ?_
  ·exact ⟨0,[],by simp,by simp,by simp,by simp [enB],by simp [s0],by simp,by simp⟩
  clear s0 σ
  rintro m σ ⟨i,ms,hm,hp,s3,o3,s12,s13,s14⟩
  unfold c1027b0
  by_cases hi:i < l.length
  ·have w1:=wrap_succ (i:=i) (by omega)
   obtain ⟨e,ht1⟩:=at_of hi
   obtain ⟨_,ht2⟩:=getE ht1
   have heo:=hO e (List.mem_of_getElem? ht1)
   rw [drop_at ht1,chkE] at hp
   simp [s3,o3,s12,s13,s14,hi,ht2,En.cells]
   refine ECall.fn (fn1052g e i) (by simp [enm,En.cells,ib]) (by simp) rfl fun _=>?_
   cases hs:e.right (i:Int) with
   | false=>
    rw [hs] at hp
    simp at hp
    simp [bb,r1027,ib,← hp]
   | true=>
    rw [hs] at hp
    by_cases k3:e.kind < 3
    ·rw [if_neg (by simp),if_pos k3] at hp
     simp [bb,k3,s3,o3,s12,s13,s14,w1]
     exact ⟨m - 1,by omega,i + 1,by omega,ms,hp,rfl,by simp⟩
    ·rw [if_neg (by simp),if_neg k3] at hp
     have hset:=setM_enB ms e.base e.block
     have hkn:=fn1054 e.block e.base heo.block
     cases hg:getM ms e.base with
     | some b=>
      have hget:mgetL (enB ms) e.base=some b.cells:=by rw [getM_enB,hg];rfl
      rw [hg] at hp
      simp only [] at hp
      simp only [B.cells] at hget hset
      simp [bb,k3,s3,o3,hget,mres,mval]
      refine GCall.fn (fun _=>fn1053 b e.block) (by simp [bm,B.cells]) (by simp) rfl fun _=>?_
      simp [bb]
      refine GCall.fn (fun _=>hkn) (by simp [bm,B.cells,ib]) (by simp) rfl fun _=>?_
      cases hq:b.eqb e.block with
      | false=>
       rw [hq] at hp
       simp at hp
       simp [bb,r1027,ib,← hp]
      | true=>
       rw [hq] at hp
       simp at hp
       simp [bb,s3,o3,hset,s12,s13,s14,w1]
       exact ⟨m - 1,by omega,i + 1,by omega,_,hp,rfl,by simp⟩
     | none=>
      have hget:mgetL (enB ms) e.base=none:=by rw [getM_enB,hg];rfl
      rw [hg] at hp
      simp only [] at hp
      simp only [B.cells] at hset
      simp [bb,k3,s3,o3,hget,mres,mval,Cell.plain]
      refine GCall.fn (fun _=>fn1053 ⟨[],[],0⟩ e.block) (by simp [bm,B.cells]) (by simp) rfl fun _=>?_
      simp [bb]
      refine GCall.fn (fun _=>hkn) (by simp [bm,B.cells,ib]) (by simp) rfl fun _=>?_
      cases hq:e.block.known e.base with
      | false=>
       rw [hq] at hp
       simp at hp
       simp [bb,r1027,ib,← hp]
      | true=>
       rw [hq] at hp
       simp at hp
       simp [bb,s3,o3,hset,s12,s13,s14,w1]
       exact ⟨m - 1,by omega,i + 1,by omega,_,hp,rfl,by simp⟩
  ·have:i=l.length:=by omega
   subst this
   simp [chkE] at hp
   simp [s12,s13,s14,r1027,ib,← hp]
end Go.Abs
