/- THIS TEXT TELLS SOME FUNCTIONS OF THE PROGRAM IN THE CALCULUS, PROVES BY THE KERNEL THAT WHAT IS TOLD IS THE LOADED CODE, AND PROVES WHAT THEY COMPUTE: for every argument that is told; the conditions stand in each theorem. -/
import Derived.Test.YtfgjannlepahgaaGreatRows
import Derived.WalkKit
import Derived.ProofKit
import Derived.OpenShut
import Derived.JoinedCond
import Derived.Deep.Strs
import Derived.Deep.Slices
import Derived.Below
import Derived.Carry
import Derived.WideShapes
import Derived.KernelRfl
import Derived.Test.YtfgjannlepahgaaGreatProg
import Derived.Test.YtfgjannlepahgaaGreatDeAM2
set_option linter.unusedVariables false
set_option linter.unusedSimpArgs false
namespace Go.Abs
inductive T where
 | mk (k n:Int) (kids:List T)
 deriving Inhabited
mutual
def T.cells:T → List Cell
 | .mk k n ts=>[.v (.int .i64 k),.v (.int .i64 n),.sl 3 40 (T.cellsL ts)]
def T.cellsL:List T → List (List Cell)
 | []=>[]
 | t :: ts=>T.cells t :: T.cellsL ts
end
theorem cellsL_map:∀ ts:List T,T.cellsL ts=ts.map T.cells
 | []=>by simp [T.cellsL]
 | t :: ts=>by simp [T.cellsL,cellsL_map ts]
theorem cells_mk (k n:Int) (ts:List T):T.cells (.mk k n ts)=[.v (.int .i64 k),.v (.int .i64 n),.sl 3 40 (ts.map T.cells)]:=by rw [T.cells,cellsL_map]
def T.kind:T → Int | .mk k _ _=>k
def T.val:T → Int | .mk _ n _=>n
def T.kids:T → List T | .mk _ _ ts=>ts
@[simp] theorem kind_mk (k n:Int) (ts:List T):(T.mk k n ts).kind=k:=rfl
@[simp] theorem val_mk (k n:Int) (ts:List T):(T.mk k n ts).val=n:=rfl
@[simp] theorem kids_mk (k n:Int) (ts:List T):(T.mk k n ts).kids=ts:=rfl
theorem cells_eq (t:T):t.cells=[.v (.int .i64 t.kind),.v (.int .i64 t.val),.sl 3 40 (t.kids.map T.cells)]:=by cases t;exact cells_mk _ _ _
@[simp] theorem cells_len (t:T):t.cells.length=3:=by rw [cells_eq];rfl
@[simp] theorem cells_take (t:T):t.cells.take 3=t.cells:=by rw [cells_eq];rfl
@[simp] theorem cells_toD (σ:St) (t:T):t.cells.map (toD σ)=t.cells:=by rw [cells_eq];rfl
@[simp] theorem cells_keys (t:T):keysCs t.cells=[]:=by rw [cells_eq];rfl
theorem cells_isD (t:T):t.cells.all Cell.isD=true:=by rw [cells_eq];rfl
@[simp] theorem cells_isD' (t:T) (c:Cell) (h:c ∈ t.cells):c.isD=true:=List.all_eq_true.1 (cells_isD t) c h
@[simp] theorem putC_all (t:T) (a b c:Cell):putC [a,b,c] 0 t.cells=t.cells:=by rw [cells_eq];rfl
def tm (t:T):AV:=.agg t.cells
def tms (ts:List T):AV:=.c (.sl 3 40 (ts.map T.cells))
def ib (n:Int):AV:=.c (.v (.int .i64 n))
def bb (b:Bool):AV:=.c (.v (.bool b))
@[simp] theorem tm_un (t:T):un (tm t)=tm t:=rfl
@[simp] theorem tms_un (t:List T):un (tms t)=tms t:=rfl
theorem real_sl {sz bs:Nat} {es:List (List Cell)} (h:Real (.c (.sl sz bs es))):es.length * bs ≤ room:=by
 obtain ⟨g,w,v,h⟩:=h
 have h:=h (by simp)
 cases h with
 | sl _ _ _ a c vs h1 h2 h3 h4 h5=>exact h2
theorem real_tms {ts:List T} (h:Real (tms ts)):ts.length * 40 ≤ 140737488355328:=by simpa [room] using real_sl h
theorem real_kids {t:T} (h:Real (tm t)):t.kids.length * 40 ≤ 140737488355328:=by
 obtain ⟨g,w,v,h⟩:=h
 obtain ⟨vs,_,h⟩:=h
 rw [cells_eq] at h
 obtain ⟨v2,_,h2⟩:=h.get 2 _ rfl
 have h2:RD g w _ v2:=h2
 cases h2 with
 | sl _ _ _ a c vs h1 h6 h3 h4 h5=>simpa [room] using h6
theorem wrap_id {a:Int} (h1:-9223372036854775808 ≤ a) (h2:a < 9223372036854775808):IntKind.wrap .i64 a=a:=by
 simp only [IntKind.wrap,IntKind.bits,IntKind.signed,Bool.true_and]
 by_cases h0:0 ≤ a
 ·have h3:a % (2 ^ 64:Int)=a:=Int.emod_eq_of_lt h0 (by omega)
  simp only [h3]
  split
  ·rename_i h;simp at h;omega
  ·rfl
 ·have h3:a % (2 ^ 64:Int)=a + 2 ^ 64:=by
   rw [← Int.add_emod_right a (2 ^ 64)]
   exact Int.emod_eq_of_lt (by omega) (by omega)
  simp only [h3]
  split
  ·omega
  ·rename_i h;simp at h;omega
theorem slots0 (x:AV) (l:List AV):slotsOf (x :: l) 0=x:=rfl
theorem slots1 (x y:AV) (l:List AV):slotsOf (x :: y :: l) 1=y:=rfl
theorem slots2 (x y z:AV) (l:List AV):slotsOf (x :: y :: z :: l) 2=z:=rfl
attribute [simp] rrGok resOf resL rrEv isV1
theorem T.ind {p:T → Prop} (h:∀ k n ts,(∀ t,t ∈ ts → p t) → p (.mk k n ts)) (t:T):p t:=by
 have key:∀ (m:Nat) (t:T),SizeOf.sizeOf t < m → p t:=by
  intro m
  induction m with
  | zero=>intro t ht;omega
  | succ m ih=>
   intro t ht
   obtain ⟨k,n,ts⟩:=t
   refine h k n ts fun u hu=>ih u ?_
   have:=List.sizeOf_lt_of_mem hu
   simp at ht
   omega
 exact key _ t (Nat.lt_succ_self _)
theorem drop_at {α:Type}:∀ {ts:List α} {i:Nat} {t:α},ts[i]? = some t → ts.drop i=t :: ts.drop (i + 1)
 | t :: ts,0,_,h=>by simp at h;simp [h]
 | t :: ts,i + 1,t',h=>by simpa using drop_at (ts:=ts) (by simpa using h)
 | [],_,_,h=>by simp at h
theorem getE {α:Type} {ts:List α} {i:Nat} {t:α} (h:ts[i]? = some t):∃ hi:i < ts.length,ts[i]=t:=List.getElem?_eq_some_iff.1 h
theorem at_of {α:Type} {ts:List α} {i:Nat} (h:i < ts.length):∃ t,ts[i]? = some t:=⟨ts[i],by simp [h]⟩
theorem wrap_succ {i:Nat} (h:i < 9223372036854775807):IntKind.wrap .i64 ((i:Int) + 1)=((i + 1:Nat):Int):=by rw [wrap_id (by omega) (by omega)];rfl
def kidsOf (k:Int):Int:=if k=1 then 0 else if k=2 then 0 else if k=3 then 0 else if k=9 then 1 else if k=10 then 1 else if k=8 then 3 else if k=11 then 3 else if k=13 then 3 else if 1 ≤ k ∧ k ≤ 13 then 2 else -1
def badHead (k n:Int) (len:Nat):Bool:=((((decide (kidsOf k < 0) || !decide ((len:Int)=kidsOf k)) || decide (n < 0)) || decide (65535 < n)) || (decide (0 < kidsOf k) && !decide (n=0)))
mutual
def T.formed:T → Bool
 | .mk k n ts=>!badHead k n ts.length && T.formedL ts
def T.formedL:List T → Bool
 | []=>true
 | t :: ts=>T.formed t && T.formedL ts
end
theorem formedL_all:∀ ts:List T,T.formedL ts=ts.all T.formed
 | []=>by simp [T.formedL]
 | t :: ts=>by simp [T.formedL,formedL_all ts]
def is (ns:List Int):AV:=.c (.sl 1 8 (ns.map fun n=>[.v (.int .i64 n)]))
theorem real_is {ns:List Int} (h:Real (is ns)):ns.length * 8 ≤ 140737488355328:=by simpa [room] using real_sl h
def bindsOf (k i:Int):Int:=if i=1 ∧ (k=4 ∨ k=5 ∨ k=7) then 1 else 0
mutual
def T.within:T → Int → Int → Bool
 | .mk k n ts,a,b=>if k=1 then decide (n < a) else if k=2 then decide (n ≤ 6) else if k=3 then decide (n < b) else T.withinL k a b 0 ts
def T.withinL (k a b:Int):Int → List T → Bool
 | _,[]=>true
 | i,t :: ts=>T.within t (IntKind.wrap .i64 (a + bindsOf k i)) b && T.withinL k a b (i + 1) ts
end
mutual
def T.size:T → Int
 | .mk _ _ ts=>T.sizeL 1 ts
def T.sizeL:Int → List T → Int
 | a,[]=>a
 | a,t :: ts=>T.sizeL (IntKind.wrap .i64 (a + T.size t)) ts
end
mutual
def T.depth:T → Int
 | .mk _ _ ts=>IntKind.wrap .i64 (T.depthL 0 ts + 1)
def T.depthL:Int → List T → Int
 | a,[]=>a
 | a,t :: ts=>T.depthL (best2 true a (T.depth t)) ts
end
def T.check (t:T):Int:=if 6000 < t.size then 4 else if 200 < t.depth then 5 else if t.formed then 0 else 1
def T.scope (t:T) (a b:Int):Bool:=decide (0 ≤ a) && decide (0 ≤ b) && decide (t.check=0) && T.within t (best2 false a 65536) b
mutual
def T.count:T → Nat
 | .mk _ _ ts=>T.countL ts + 1
def T.countL:List T → Nat
 | []=>0
 | t :: ts=>T.count t + T.countL ts
end
theorem count_mem {t:T}:∀ {ts:List T},t ∈ ts → t.count ≤ T.countL ts
 | u :: ts,h=>by
  rcases List.mem_cons.1 h with rfl | h
  ·simp [T.countL]
  ·have:=count_mem h;simp [T.countL];omega
@[simp] theorem bestL_2 (mx:Bool) (k:IntKind) (a b:Int):bestL mx k a [.c (.v (.int k b))]=some (best2 mx a b):=by simp [bestL]
@[simp] theorem bestL_gd (mx:Bool) (k:IntKind) (a b:Int) (β:Bool):bestL mx k a [.gd β (.c (.v (.int k b)))]=some (best2 mx a b):=by simp [bestL]
mutual
def T.wf:T → Bool
 | .mk k n ts=>decide (-9223372036854775808 ≤ n ∧ n < 9223372036854775808) && T.wfL ts
def T.wfL:List T → Bool
 | []=>true
 | t :: ts=>T.wf t && T.wfL ts
end
theorem wfL_all:∀ ts:List T,T.wfL ts=ts.all T.wf
 | []=>by simp [T.wfL]
 | t :: ts=>by simp [T.wfL,wfL_all ts]
end Go.Abs

namespace Go.Abs
open Go.Proofs Go.Proofs.YtfgjannlepahgaaGreat Go.RowKit
def gOf (w:World):Gh:=⟨fun b _=>b < w.heap.size,fun _=>0,fun _=>.nilFunc,fun _=>0⟩
theorem cell_lt {w:World} {a:Addr} {x:Value} (h:w.cell? a=some x):a.block < w.heap.size:=by
 unfold World.cell? at h
 by_cases hb:a.block < w.heap.size
 ·exact hb
 ·rw [Array.getElem?_eq_none (by omega)] at h;cases h
theorem bulk_one {H:Type} (d:DataW H):1 ≤ Rows.uptoBulk d:=by
 cases d with
 | lit l=>cases l <;> simp [Rows.uptoBulk]
 | _=>simp [Rows.uptoBulk]
theorem bulk_all_len {H:Type}:∀ (l:List (DataW H)),l.length ≤ Rows.uptoBulkAll l
 | []=>by simp [Rows.uptoBulkAll]
 | d :: l=>by
  have:=bulk_all_len l
  have h1:=bulk_one d
  simp [Rows.uptoBulkAll];omega
theorem bulk_mem {H:Type} {d:DataW H}:∀ {l:List (DataW H)},d ∈ l → Rows.uptoBulk d ≤ Rows.uptoBulkAll l
 | e :: l,h=>by
  rcases List.mem_cons.1 h with rfl | h
  ·simp [Rows.uptoBulkAll]
  ·have:=bulk_mem h;simp [Rows.uptoBulkAll];omega
theorem cell24:Tryz.prog.cellsOf 63=3:=by kernel_rfl
theorem cell22:Tryz.prog.cellsOf 61=1:=by kernel_rfl
theorem cell3:Tryz.prog.cellsOf 3=1:=by kernel_rfl
theorem countL_append:∀ (l r:List T),T.countL (l ++ r)=T.countL l + T.countL r
 | [],r=>by simp [T.countL]
 | t :: l,r=>by simp [T.countL,countL_append l r];omega
theorem bulkAll_append {H:Type}:∀ (l r:List (DataW H)),Rows.uptoBulkAll (l ++ r)=Rows.uptoBulkAll l + Rows.uptoBulkAll r
 | [],r=>by simp [Rows.uptoBulkAll]
 | t :: l,r=>by simp [Rows.uptoBulkAll,bulkAll_append l r];omega
theorem three {α:Type}:∀ {l:List α},l.length=3 → ∃ a b c,l=[a,b,c]
 | [a,b,c],_=>⟨a,b,c,rfl⟩
theorem wf_int {m:Int} (h:(Lit.int .i64 m).wf=true):-9223372036854775808 ≤ m ∧ m < 9223372036854775808:=by
 simp [Lit.wf,IntKind.min,IntKind.max,IntKind.bits,IntKind.signed] at h
 omega
theorem term_reads {H:Type} {enc:TypeId × Value → H} {w:World} {B:Nat} (hroom:B * 40 ≤ room):∀ (N:Nat) {fuel:Nat} {cs:List Value} {x:DataW H × List MemPlace},DataW.trod enc Tryz.prog w 0 (fun _=>true) true fuel 63 cs=some x →
  Rows.uptoBulk x.1 ≤ N → Rows.uptoBulk x.1 ≤ B → ∃ t:T,All2 (RC (gOf w) w) t.cells cs ∧ t.count ≤ Rows.uptoBulk x.1 ∧ t.wf=true:=by
 intro N
 induction N with
 | zero=>intro fuel cs x h hb _;have:=bulk_one x.1;omega
 | succ N ih=>
  intro fuel cs x h hb hB
  obtain ⟨y0,y1,y2,n,rfl,hlen,h0,h1,h2⟩:=Go.Deep.trod_struct3 Tryz.underlying63 h
  rw [cell24] at hlen
  obtain ⟨v0,v1,v2,rfl⟩:=three hlen
  simp only [cell3,cell22,List.drop_zero,List.drop_succ_cons,List.take_succ_cons,List.take_zero] at h0 h1 h2
  obtain ⟨k,e0,rfl,_⟩:=DataW.trod_int Tryz.underlying3 h0
  obtain ⟨m,e1,rfl,hw1⟩:=DataW.trod_int Tryz.underlying3 h1
  cases e0;cases e1
  have hwm:=wf_int hw1
  simp only [Rows.uptoBulk,Rows.uptoBulkAll] at hb hB
  rcases Go.Deep.open_slice Tryz.underlying61 h2 with ⟨e2,rfl⟩ | ⟨a,len,cap,mm,nn,D,Pl,e2,_,hl,_,hm,rfl,hel⟩
  ·cases e2
   refine ⟨.mk k m [],?_⟩
   rw [cells_mk]
   exact ⟨⟨.v _ rfl,.v _ rfl,(nil_spec (gOf w) w 3 40).1,trivial⟩,by simp [T.count,T.countL,Rows.uptoBulk,Rows.uptoBulkAll],by simp [T.wf,T.wfL,hwm]⟩
  ·cases e2
   simp only [if_true] at hm
   subst hm
   simp only [Rows.uptoBulk] at hb hB
   have hlen2:len ≤ B:=by
    have:=bulk_all_len ((List.range len).map D)
    simp at this
    omega
   have hk:∀ i,∃ (t:T) (us:List Value),i < len → w.cells? 0 (a.add (i * 3)) 3=some us ∧ All2 (RC (gOf w) w) t.cells us ∧ t.count ≤ Rows.uptoBulk (D i) ∧ t.wf=true:=fun i=>by
    by_cases hi:i < len
    ·obtain ⟨us,hu1,hu2⟩:=hel i (by omega)
     rw [cell24] at hu1
     have hD:D i ∈ (List.range len).map D:=List.mem_map.2 ⟨i,by simpa using hi,rfl⟩
     have hle:=bulk_mem hD
     obtain ⟨t,ht,hc,hw⟩:=ih hu2 (by simp only;omega) (by simp only;omega)
     exact ⟨t,us,fun _=>⟨hu1,ht,hc,hw⟩⟩
    ·exact ⟨default,[],fun h=>absurd h hi⟩
   refine ⟨.mk k m ((List.range len).map fun i=>Classical.choose (hk i)),?_⟩
   rw [cells_mk]
   refine ⟨⟨.v _ rfl,.v _ rfl,?_,trivial⟩,?_,?_⟩
   rotate_left
   ·have hsum:∀ m,m ≤ len → T.countL ((List.range m).map fun i=>Classical.choose (hk i)) ≤ Rows.uptoBulkAll ((List.range m).map D):=by
     intro m
     induction m with
     | zero=>intro _;simp [T.countL]
     | succ m ihm=>
      intro hm
      have h1:=ihm (by omega)
      obtain ⟨us,h2⟩:=Classical.choose_spec (hk m)
      have h3:=(h2 (by omega)).2.2.1
      rw [List.range_succ,List.map_append,List.map_append,countL_append,bulkAll_append]
      simp [T.countL,Rows.uptoBulkAll]
      omega
    have:=hsum len (Nat.le_refl _)
    simp only [T.count,Rows.uptoBulk,Rows.uptoBulkAll]
    omega
   ·simp only [T.wf,wfL_all,Bool.and_eq_true,List.all_eq_true]
    refine ⟨by simpa using hwm,fun t ht=>?_⟩
    obtain ⟨i,hi,rfl⟩:=List.mem_map.1 ht
    obtain ⟨us,h2⟩:=Classical.choose_spec (hk i)
    exact (h2 (by simpa using hi)).2.2.2
   have hspec:∀ i,i < len → ∃ us,w.cells? 0 (a.add (i * 3)) 3=some us ∧ All2 (RC (gOf w) w) (Classical.choose (hk i)).cells us:=fun i hi=>by
    obtain ⟨us,h⟩:=Classical.choose_spec (hk i)
    exact ⟨us,(h hi).1,(h hi).2.1⟩
   have hat:∀ i j,∃ v,i < len → j < 3 → ∀ d,(Classical.choose (hk i)).cells[j]? = some d → w.cell? (a.add (i * 3 + j))=some v ∧ RC (gOf w) w d v:=fun i j=>by
    by_cases hi:i < len
    ·obtain ⟨us,hu,hall⟩:=hspec i hi
     by_cases hj:j < 3
     ·have hul:us.length=3:=by have:=hall.length;simpa using this.symm
      refine ⟨us[j]'(by omega),fun _ _ d hd=>?_⟩
      unfold World.cells? at hu
      rw [if_pos (Nat.zero_le _)] at hu
      have hg:=mapM_some_get hu j j (by simp [hj])
      rw [List.getElem?_eq_getElem (by omega)] at hg
      rw [Addr.add_add] at hg
      obtain ⟨b,hb1,hb2⟩:=hall.get j d hd
      rw [List.getElem?_eq_getElem (by omega)] at hb1
      cases hb1
      exact ⟨hg,hb2⟩
     ·exact ⟨undef,fun _ h=>absurd h hj⟩
    ·exact ⟨undef,fun h=>absurd h hi⟩
   have hes:∀ (i j:Nat) l d,(((List.range len).map fun i=>Classical.choose (hk i)).map T.cells)[i]? = some l → l[j]? = some d → i < len ∧ j < 3 ∧ (Classical.choose (hk i)).cells[j]? = some d:=fun i j l d e1 e2=>by
    simp only [List.getElem?_map,Option.map_eq_some_iff,List.getElem?_eq_some_iff] at e1
    obtain ⟨t,⟨i',⟨hi',e3⟩,rfl⟩,rfl⟩:=e1
    simp at e3 hi'
    subst e3
    have hj:=(List.getElem?_eq_some_iff.1 e2).1
    rw [cells_len] at hj
    exact ⟨hi',hj,e2⟩
   have key:RD (gOf w) w (.sl 3 40 (((List.range len).map fun i=>Classical.choose (hk i)).map T.cells)) (.slice (some a) (((List.range len).map fun i=>Classical.choose (hk i)).map T.cells).length mm):=by
    refine .sl 3 40 _ (some a) mm (fun i j=>Classical.choose (hat i j)) (by simpa using hl) (by simp;omega) (fun l hl=>?_) (fun i j l d e1 e2=>?_) (fun i j l d e1 e2=>?_)
    ·obtain ⟨t,_,rfl⟩:=List.mem_map.1 hl
     exact cells_len t
    ·obtain ⟨hi,hj,hd⟩:=hes i j l d e1 e2
     have:=(Classical.choose_spec (hat i j) hi hj d hd).1
     exact ⟨_,rfl,cell_lt this,this⟩
    ·obtain ⟨hi,hj,hd⟩:=hes i j l d e1 e2
     have:=(Classical.choose_spec (hat i j) hi hj d hd).2
     exact isD_spec this (cells_isD' _ d (List.mem_of_getElem? hd))
   have key2:RC (gOf w) w (.sl 3 40 (((List.range len).map fun i=>Classical.choose (hk i)).map T.cells)) (.slice (some a) (((List.range len).map fun i=>Classical.choose (hk i)).map T.cells).length mm):=key
   simpa using key2
theorem calls_of_fn {P:Program} {f:Nat} {args:List AV} {res:AV} (h:Fn P f args res) {w:World} {vs:Array Value} (ha:All2 (RV2 (gOf w) w) args vs.toList) :
  Calls P f vs w fun e w'=>∃ v,e=.returned v ∧ Below w.heap.size w w' ∧ ∃ g',RV2 g' w' res v:=by
 refine (h.2 (gOf w) w vs (fun b _ hb=>hb) ha ⟨fun k t q hq=>by simp at hq,fun k k' t t' q q' hq=>by simp at hq⟩).mono ?_
 rintro e w' ⟨v,g',rfl,hp⟩
 refine ⟨v,rfl,⟨hp.os,hp.tape,hp.out,hp.grow,fun b hb=>(hp.frame b hb ?_).1⟩,g',hp.res⟩
 rintro ⟨k,t,q,hq,_⟩
 simp at hq
theorem calls_bool {P:Program} {f:Nat} {args:List AV} {b:Bool} (h:Fn P f args (bb b)) {w:World} {vs:Array Value} (ha:All2 (RV2 (gOf w) w) args vs.toList) :
  Calls P f vs w fun e w'=>e=.returned (.bool b) ∧ Below w.heap.size w w':=by
 refine (calls_of_fn h ha).mono ?_
 rintro e w' ⟨v,rfl,hb,g',hv⟩
 exact ⟨by rw [RV2_v hv],hb⟩
end Go.Abs

namespace Go.Abs
open Go.Proofs Go.Proofs.YtfgjannlepahgaaGreat Go.RowKit
theorem und38:Tryz.prog.underlying 24=some (.slice 3):=by kernel_rfl
set_option maxRecDepth 100000 in
theorem slice_ok {w:World} {base:Nat} {v:Value} (h:Value.okWide Tryz.prog w .any base 24 v):∃ a n c,v=.slice a n c:=Go.WideShapes.okWide_slice und38 h
theorem arg_ints {H:Type} {enc:TypeId × Value → H} {w:World} {v:Value} {d:DataW H} {ps:List MemPlace} (h:DataW.Trod enc Tryz.prog w 0 (fun _=>true) true 24 v d ps) (hv:∃ a n c,v=.slice a n c) (hb:Rows.uptoBulk d ≤ 1048576) :
  ∃ l:List Int,RV2 (gOf w) w (is l) v ∧ l.length ≤ 1048576:=by
 obtain ⟨fuel,h⟩:=h
 obtain ⟨a0,n0,c0,rfl⟩:=hv
 rcases Go.Deep.open_slice und38 h with ⟨e,_⟩ | ⟨a,len,cap,mm,nn,D,Pl,e,_,hl,_,hm,hd,hel⟩
 ·have e':[Value.slice a0 n0 c0]=[.slice none 0 0]:=e
  cases e'
  exact ⟨[],fun _=>(nil_spec (gOf w) w 1 8).1,by simp⟩
 ·have e':[Value.slice a0 n0 c0]=[.slice (some a) len cap]:=e
  cases e'
  simp only [if_true] at hm
  subst hm
  cases hd
  simp only [Rows.uptoBulk] at hb
  have hlen2:n0 ≤ 1048576:=by
   have:=bulk_all_len ((List.range n0).map D)
   simp at this
   omega
  have hk:∀ i,∃ m:Int,i < n0 → w.cell? (a.add i)=some (.int .i64 m):=fun i=>by
   by_cases hi:i < n0
   ·obtain ⟨us,hu1,hu2⟩:=hel i (by omega)
    obtain ⟨m,e0,_,_⟩:=DataW.trod_int Tryz.underlying3 hu2
    subst e0
    rw [cell3] at hu1
    unfold World.cells? at hu1
    rw [if_pos (Nat.zero_le _)] at hu1
    have hg:=mapM_some_get hu1 0 0 (by simp)
    rw [Addr.add_add] at hg
    exact ⟨m,fun _=>by simpa using hg⟩
   ·exact ⟨0,fun h=>absurd h hi⟩
  refine ⟨(List.range n0).map fun i=>Classical.choose (hk i),?_,by simpa using hlen2⟩
  intro _
  have key:RD (gOf w) w (.sl 1 8 (((List.range n0).map fun i=>Classical.choose (hk i)).map fun n=>[.v (.int .i64 n)])) (.slice (some a) (((List.range n0).map fun i=>Classical.choose (hk i)).map fun n=>[Cell.v (.int .i64 n)]).length mm):=by
   have hes:∀ (i j:Nat) l d,(((List.range n0).map fun i=>Classical.choose (hk i)).map fun n=>[Cell.v (.int .i64 n)])[i]? = some l → l[j]? = some d → i < n0 ∧ j=0 ∧ d=.v (.int .i64 (Classical.choose (hk i))):=fun i j l d e1 e2=>by
    simp only [List.getElem?_map,Option.map_eq_some_iff,List.getElem?_eq_some_iff] at e1
    obtain ⟨t,⟨i',⟨hi',e3⟩,rfl⟩,rfl⟩:=e1
    simp at e3 hi'
    subst e3
    cases j with
    | zero=>simp at e2;exact ⟨hi',rfl,e2.symm⟩
    | succ j=>simp at e2
   refine .sl 1 8 _ (some a) mm (fun i j=>.int .i64 (Classical.choose (hk i))) (by simpa using hl) (by simp [room];omega) (fun l hl=>?_) (fun i j l d e1 e2=>?_) (fun i j l d e1 e2=>?_)
   ·obtain ⟨t,_,rfl⟩:=List.mem_map.1 hl;rfl
   ·obtain ⟨hi,rfl,rfl⟩:=hes i j l d e1 e2
    have:=Classical.choose_spec (hk i) hi
    have hlt:=cell_lt this
    exact ⟨_,rfl,by simpa [gOf] using hlt,by simpa using this⟩
   ·obtain ⟨hi,rfl,rfl⟩:=hes i j l d e1 e2
    exact .v _ rfl
  have key2:RC (gOf w) w (.sl 1 8 (((List.range n0).map fun i=>Classical.choose (hk i)).map fun n=>[.v (.int .i64 n)])) (.slice (some a) (((List.range n0).map fun i=>Classical.choose (hk i)).map fun n=>[Cell.v (.int .i64 n)]).length mm):=key
  simpa using key2
end Go.Abs

namespace Go.Abs
def w1012_0:List (List Nat):=[[],[1012036],[],[1012038],[],[]]
def f1012_0:List (List Nat):=[[1012038],[1012038],[1012036],[1012036],[1012038],[]]
def c1012b0:SCode:=
 .seq (.reg [o_ 42 (.bin .lss (.t 41) (.t 40))]) (.seq (.cond (.t 42) (.skip) (.exit 0)) (.seq (.block 1 (.seq (.reg [o_ 43 (.iad 28 2 (.t 39) (.t 41)),o_ 44 (.ldn 28 2 (.t 43)),o_ 10 (.alloc 28 [.v (.int .i64 0),.v (.int .i64 0)]),n_ (.stn 28 2 (.t 10) (.t 44))]) (.seq (.reg [m_ 45 7,o_ 46 (.iaa 3 1 2 (.t 10) (.k (.int .i64 1))),o_ 47 (.ld1 3 (.t 46)),o_ 48 (.iad 3 1 (.t 45) (.t 47)),o_ 49 (.ld1 3 (.t 48)),o_ 50 (.bin .add (.t 49) (.k (.int .i64 1))),o_ 51 (.iad 3 1 (.t 45) (.t 47)),n_ (.st1 3 (.t 51) (.t 50))]) (.seq (.gh) (.seq (.dreg [0,0,2,0,0,16,56,120,0,256,768,2040,4095,8191] [m_ 52 8,o_ 53 (.iaa 3 1 2 (.t 10) (.k (.int .i64 0))),o_ 54 (.ld1 3 (.t 53)),m_ 55 8,o_ 56 (.iaa 3 1 2 (.t 10) (.k (.int .i64 0))),o_ 57 (.ld1 3 (.t 56)),o_ 58 (.iad 24 1 (.t 55) (.t 57)),o_ 59 (.ld1 24 (.t 58)),o_ 60 (.iaa 3 1 2 (.t 10) (.k (.int .i64 1))),o_ 61 (.ld1 3 (.t 60)),
 o_ 62 (.lit 3 1 8 [.t 61]),o_ 63 (.app 3 1 8 (.t 59) (.t 62)),o_ 64 (.iad 24 1 (.t 52) (.t 54)),n_ (.st1 24 (.t 64) (.t 63))]) (.gh)))))) (.reg [o_ 65 (.bin .add (.t 41) (.k (.int .i64 1))),m_ 41 65])))
def c1012b1:SCode:=
 .seq (.reg [o_ 70 (.bin .lss (.t 69) (.t 68))]) (.seq (.cond (.t 70) (.skip) (.exit 2)) (.seq (.block 3 (.seq (.reg [m_ 71 69,m_ 12 71]) (.seq (.reg [m_ 72 7,m_ 73 12,o_ 74 (.iad 3 1 (.t 72) (.t 73)),o_ 75 (.ld1 3 (.t 74)),o_ 76 (.bin .eql (.t 75) (.k (.int .i64 0)))]) (.cond (.t 76) (.reg [m_ 77 11,o_ 78 (.mki 55 (.t 77)),m_ 79 12,o_ 80 (.mki 3 (.t 79)),o_ 81 (.call (.f 30) [.t 78,.t 80])]) (.skip))))) (.reg [o_ 82 (.bin .add (.t 69) (.k (.int .i64 1))),m_ 69 82])))
def c1012b2:SCode:=
 .seq (.reg [o_ 107 (.bin .lss (.t 106) (.t 105))]) (.seq (.cond (.t 107) (.skip) (.exit 6)) (.seq (.block 7 (.seq (.reg [o_ 108 (.iad 3 1 (.t 104) (.t 106)),o_ 109 (.ld1 3 (.t 108)),m_ 17 109]) (.seq (.reg [m_ 110 7,m_ 111 17,o_ 112 (.iad 3 1 (.t 110) (.t 111)),o_ 113 (.ld1 3 (.t 112)),o_ 114 (.bin .sub (.t 113) (.k (.int .i64 1))),o_ 115 (.iad 3 1 (.t 110) (.t 111)),n_ (.st1 3 (.t 115) (.t 114))]) (.seq (.reg [m_ 116 7,m_ 117 17,o_ 118 (.iad 3 1 (.t 116) (.t 117)),o_ 119 (.ld1 3 (.t 118)),o_ 120 (.bin .eql (.t 119) (.k (.int .i64 0)))]) (.cond (.t 120) (.reg [m_ 121 11,o_ 122 (.mki 55 (.t 121)),m_ 123 17,o_ 124 (.mki 3 (.t 123)),o_ 125 (.call (.f 30) [.t 122,.t 124])]) (.skip)))))) (.reg [o_ 126 (.bin .add (.t 106) (.k (.int .i64 1))),m_ 106 126])))
def c1012b3:SCode:=
 .seq (.seq (.reg [m_ 83 11,o_ 84 (.nilc (.t 83)),o_ 85 (.ld1 56 (.t 84)),o_ 86 (.call (.f 31) [.t 85]),o_ 87 (.bin .gtr (.t 86) (.k (.int .i64 0)))]) (.cond (.t 87) (.skip) (.exit 4))) (.block 5 (.seq (.reg [m_ 89 11,o_ 90 (.mki 55 (.t 89)),o_ 91 (.call (.f 32) [.t 90]),o_ 92 (.tas 3 (.t 91)),m_ 88 92,o_ 93 (.ext (.t 88) 0),o_ 94 (.ext (.t 88) 1),m_ 14 93,m_ 15 94]) (.seq (.seq (.reg [m_ 95 15,o_ 96 (.not (.t 95))]) (.cond (.t 96) (.exit 4) (.skip))) (.seq (.reg [m_ 97 13,m_ 98 14,o_ 99 (.lit 3 1 8 [.t 98]),o_ 100 (.app 3 1 8 (.t 97) (.t 99)),m_ 13 100]) (.seq (.seq (.gh) (.reg [m_ 101 8,m_ 102 14,o_ 103 (.iad 24 1 (.t 101) (.t 102)),o_ 104 (.ld1 24 (.t 103)),o_ 105 (.len 24 (.t 104)),o_ 106 (.mv (.k (.int .i64 0)))])) (.block 6 (.loop c1012b2)))))))
def c1012:SCode:=
 .seq (.reg [o_ 2 (.box 3 (.t 0)),o_ 4 (.mv (.nil 1 8)),o_ 5 (.mv (.k (.int .i64 0)))]) (.seq (.reg [o_ 18 (.mkfn 28 [] [.t 2]),m_ 6 18]) (.seq (.seq (.reg [o_ 19 (.ld1 3 (.t 2)),o_ 20 (.bin .lss (.t 19) (.k (.int .i64 0))),m_ 21 20,q_ 22 21 (.ld1 3 (.t 2)),q_ 23 21 (.bin .gtr (.t 22) (.k (.int .i64 200))),o_ 24 (.pick (.t 21) (.k (.bool true)) (.t 23)),m_ 25 24,qm_ 26 25 1,q_ 27 25 (.len 22 (.t 26)),q_ 28 25 (.bin .gtr (.t 27) (.k (.int .i64 4000))),o_ 29 (.pick (.t 25) (.k (.bool true)) (.t 28)),m_ 30 29,qm_ 31 30 1,qm_ 32 30 6,q_ 33 30 (.call (.f 29) [.t 31,.t 32]),o_ 34 (.pick (.t 30) (.k (.bool true)) (.t 33))]) (.cond (.t 34) (.seq (.reg [o_ 4 (.mv (.nil 1 8)),o_ 5 (.mv (.k (.int .i64 1)))]) (.ret)) (.skip))) (.seq (.dreg [0,1,0,4,3,31] [o_ 35 (.ld1 3 (.t 2)),o_ 36 (.mk 3 1 8 [.v (.int .i64 0)] (.t 35)),o_ 37 (.ld1 3 (.t 2)),o_ 38 (.mkb 24 24 (.cap 1 8 []) (.t 37)),m_ 7 36,
 m_ 8 38]) (.seq (.seq (.reg [m_ 39 1,o_ 40 (.len 22 (.t 39)),o_ 41 (.mv (.k (.int .i64 0)))]) (.block 0 (.loop c1012b0))) (.seq (.seq (.reg [o_ 66 (.lit 3 1 8 []),o_ 67 (.box 56 (.t 66)),m_ 11 67]) (.gh)) (.seq (.seq (.reg [o_ 68 (.ld1 3 (.t 2)),o_ 69 (.mv (.k (.int .i64 0)))]) (.block 2 (.loop c1012b1))) (.seq (.reg [o_ 13 (.mv (.nil 1 8))]) (.seq (.block 4 (.loop c1012b3)) (.seq (.seq (.reg [m_ 127 13,o_ 128 (.len 24 (.t 127)),o_ 129 (.ld1 3 (.t 2)),o_ 130 (.bin .lss (.t 128) (.t 129))]) (.cond (.t 130) (.seq (.reg [o_ 4 (.mv (.nil 1 8)),o_ 5 (.mv (.k (.int .i64 12)))]) (.ret)) (.skip))) (.seq (.reg [m_ 131 13,m_ 4 131,o_ 5 (.mv (.k (.int .i64 0)))]) (.ret)))))))))))
def r1012:List RR:=[.t 4,.t 5]
theorem ok1012:okFn Go.Proofs.Tryz.prog 12 132 c1012 r1012 2=true:=by kernel_rfl
def c1028:SCode:=
 .seq (.reg [o_ 2 (.box 28 (.t 0)),o_ 3 (.mv (.k (.bool false)))]) (.seq (.reg [o_ 4 (.iaa 3 1 2 (.t 2) (.k (.int .i64 0))),o_ 5 (.ld1 3 (.t 4)),o_ 6 (.bin .lss (.t 5) (.k (.int .i64 0))),m_ 7 6,q_ 8 7 (.iaa 3 1 2 (.t 2) (.k (.int .i64 0))),q_ 9 7 (.ld1 3 (.t 8)),q_ 10 7 (.ld1 3 (.t 1)),q_ 11 7 (.bin .geq (.t 9) (.t 10)),o_ 12 (.pick (.t 7) (.k (.bool true)) (.t 11)),m_ 13 12,q_ 14 13 (.iaa 3 1 2 (.t 2) (.k (.int .i64 1))),q_ 15 13 (.ld1 3 (.t 14)),q_ 16 13 (.bin .lss (.t 15) (.k (.int .i64 0))),o_ 17 (.pick (.t 13) (.k (.bool true)) (.t 16)),m_ 18 17,q_ 19 18 (.iaa 3 1 2 (.t 2) (.k (.int .i64 1))),q_ 20 18 (.ld1 3 (.t 19)),q_ 21 18 (.ld1 3 (.t 1)),q_ 22 18 (.bin .geq (.t 20) (.t 21)),o_ 23 (.pick (.t 18) (.k (.bool true)) (.t 22)),m_ 3 23]) (.ret))
def r1028:List RR:=[.t 3]
theorem ok1028:okFn Go.Proofs.Tryz.prog 28 24 c1028 r1028 2=true:=by kernel_rfl
def c1029:SCode:=
 .seq (.reg [o_ 4 (.mv (.k (.bool false)))]) (.seq (.reg [m_ 5 0,m_ 6 1,o_ 7 (.call (.f 55) [.t 5,.t 6]),o_ 8 (.bin .geq (.t 7) (.k (.int .i64 0))),m_ 4 8]) (.ret))
def r1029:List RR:=[.t 4]
theorem ok1029:okFn Go.Proofs.Tryz.prog 29 9 c1029 r1029 2=true:=by kernel_rfl
def c1055b0:SCode:=
 .seq (.reg [o_ 9 (.bin .lss (.t 8) (.t 7))]) (.seq (.cond (.t 9) (.skip) (.exit 0)) (.seq (.block 1 (.seq (.reg [m_ 10 8,m_ 5 10]) (.seq (.reg [m_ 11 1,m_ 12 0,m_ 13 5,o_ 14 (.iad 28 2 (.t 12) (.t 13)),o_ 15 (.ldn 28 2 (.t 14)),o_ 16 (.call (.t 11) [.t 15])]) (.cond (.t 16) (.seq (.reg [m_ 17 5,m_ 4 17]) (.ret)) (.skip))))) (.reg [o_ 18 (.bin .add (.t 8) (.k (.int .i64 1))),m_ 8 18])))
def c1055:SCode:=
 .seq (.reg [o_ 4 (.mv (.k (.int .i64 0)))]) (.seq (.seq (.reg [m_ 6 0,o_ 7 (.len 22 (.t 6)),o_ 8 (.mv (.k (.int .i64 0)))]) (.block 0 (.loop c1055b0))) (.seq (.reg [o_ 4 (.mv (.k (.int .i64 (-1))))]) (.ret)))
def r1055:List RR:=[.t 4]
theorem ok1055:okFn Go.Proofs.Tryz.prog 55 19 c1055 r1055 2=true:=by kernel_rfl
def c1030:SCode:=
 .seq (.reg [m_ 4 0,m_ 5 1,o_ 6 (.inv 216 true 55 4 [.t 5])]) (.reg [m_ 7 0,m_ 8 0,o_ 9 (.inv 31 false 55 8 []),o_ 10 (.bin .sub (.t 9) (.k (.int .i64 1))),o_ 11 (.call (.f 56) [.t 7,.t 10])])
def r1030:List RR:=[]
theorem ok1030:okFn Go.Proofs.Tryz.prog 30 12 c1030 r1030 2=true:=by kernel_rfl
def c1032:SCode:=
 .seq (.reg [o_ 2 (.mv (.k (.nilIface)))]) (.seq (.reg [m_ 4 0,o_ 5 (.inv 31 false 55 4 []),o_ 6 (.bin .sub (.t 5) (.k (.int .i64 1))),m_ 3 6]) (.seq (.reg [m_ 7 0,m_ 8 3,o_ 9 (.inv 217 false 55 7 [.k (.int .i64 0),.t 8])]) (.seq (.reg [m_ 10 0,m_ 11 3,o_ 12 (.call (.f 57) [.t 10,.k (.int .i64 0),.t 11])]) (.seq (.reg [m_ 13 0,o_ 14 (.inv 215 true 55 13 []),m_ 2 14]) (.ret)))))
def r1032:List RR:=[.t 2]
theorem ok1032:okFn Go.Proofs.Tryz.prog 32 15 c1032 r1032 1=true:=by kernel_rfl
def c1056b0:SCode:=
 .block 1 (.seq (.reg [m_ 5 1,o_ 6 (.bin .sub (.t 5) (.k (.int .i64 1))),o_ 7 (.bin .quo (.t 6) (.k (.int .i64 2))),m_ 4 7]) (.seq (.seq (.reg [m_ 8 4,m_ 9 1,o_ 10 (.bin .eql (.t 8) (.t 9)),m_ 11 10,qm_ 12 11 0,qm_ 13 11 1,qm_ 14 11 4,q_ 15 11 (.inv 214 false 55 12 [.t 13,.t 14]),q_ 16 11 (.not (.t 15)),o_ 17 (.pick (.t 11) (.k (.bool true)) (.t 16))]) (.cond (.t 17) (.exit 0) (.skip))) (.seq (.reg [m_ 18 0,m_ 19 4,m_ 20 1,o_ 21 (.inv 217 false 55 18 [.t 19,.t 20])]) (.reg [m_ 22 4,m_ 1 22]))))
def c1056:SCode:=
 .block 0 (.loop c1056b0)
def r1056:List RR:=[]
theorem ok1056:okFn Go.Proofs.Tryz.prog 56 23 c1056 r1056 2=true:=by kernel_rfl
def c1057b0:SCode:=
 .block 1 (.seq (.reg [m_ 12 7,o_ 13 (.bin .mul (.k (.int .i64 2)) (.t 12)),o_ 14 (.bin .add (.t 13) (.k (.int .i64 1))),m_ 8 14]) (.seq (.seq (.reg [m_ 15 8,m_ 16 2,o_ 17 (.bin .geq (.t 15) (.t 16)),m_ 18 17,qm_ 19 18 8,q_ 20 18 (.bin .lss (.t 19) (.k (.int .i64 0))),o_ 21 (.pick (.t 18) (.k (.bool true)) (.t 20))]) (.cond (.t 21) (.exit 0) (.skip))) (.seq (.reg [m_ 22 8,m_ 9 22]) (.seq (.seq (.reg [m_ 23 8,o_ 24 (.bin .add (.t 23) (.k (.int .i64 1))),m_ 10 24]) (.seq (.reg [m_ 25 10,m_ 26 2,o_ 27 (.bin .lss (.t 25) (.t 26)),m_ 28 27,pm_ 29 28 0,pm_ 30 28 10,pm_ 31 28 8,p_ 32 28 (.inv 214 false 55 29 [.t 30,.t 31]),o_ 33 (.pick (.t 28) (.t 32) (.k (.bool false)))]) (.cond (.t 33) (.reg [m_ 34 10,m_ 9 34]) (.skip)))) (.seq (.seq (.reg [m_ 35 0,m_ 36 9,m_ 37 7,o_ 38 (.inv 214 false 55 35 [.t 36,.t 37]),o_ 39 (.not (.t 38))]) (.cond (.t 39) (.exit 0) (.skip))) (.seq (.reg [m_ 40 0,
 m_ 41 7,m_ 42 9,o_ 43 (.inv 217 false 55 40 [.t 41,.t 42])]) (.reg [m_ 44 9,m_ 7 44])))))))
def c1057:SCode:=
 .seq (.reg [o_ 6 (.mv (.k (.bool false)))]) (.seq (.reg [m_ 11 1,m_ 7 11]) (.seq (.block 0 (.loop c1057b0)) (.seq (.reg [m_ 45 7,m_ 46 1,o_ 47 (.bin .gtr (.t 45) (.t 46)),m_ 6 47]) (.ret))))
def r1057:List RR:=[.t 6]
theorem ok1057:okFn Go.Proofs.Tryz.prog 57 48 c1057 r1057 3=true:=by kernel_rfl
def c1031:SCode:=
 .seq (.reg [o_ 2 (.mv (.k (.int .i64 0)))]) (.seq (.reg [m_ 3 0,o_ 4 (.len 56 (.t 3)),m_ 2 4]) (.ret))
def r1031:List RR:=[.t 2]
theorem ok1031:okFn Go.Proofs.Tryz.prog 31 5 c1031 r1031 1=true:=by kernel_rfl
def c1214:SCode:=
 .seq (.reg [o_ 6 (.mv (.k (.bool false)))]) (.seq (.dreg [0,0,3,7,0,0,48,112,255,511] [m_ 7 0,m_ 8 1,o_ 9 (.iad 3 1 (.t 7) (.t 8)),o_ 10 (.ld1 3 (.t 9)),m_ 11 0,m_ 12 2,o_ 13 (.iad 3 1 (.t 11) (.t 12)),o_ 14 (.ld1 3 (.t 13)),o_ 15 (.bin .lss (.t 10) (.t 14)),m_ 6 15]) (.ret))
def r1214:List RR:=[.t 6]
theorem ok1214:okFn Go.Proofs.Tryz.prog 214 16 c1214 r1214 3=true:=by kernel_rfl
def c1215:SCode:=
 .seq (.reg [o_ 2 (.mv (.k (.nilIface)))]) (.seq (.dreg [0,1,3,0,8,24,56,120,255,511,1023] [m_ 4 0,o_ 5 (.nilc (.t 4)),o_ 6 (.ld1 56 (.t 5)),m_ 7 0,o_ 8 (.nilc (.t 7)),o_ 9 (.ld1 56 (.t 8)),o_ 10 (.len 56 (.t 9)),o_ 11 (.bin .sub (.t 10) (.k (.int .i64 1))),o_ 12 (.iad 3 1 (.t 6) (.t 11)),o_ 13 (.ld1 3 (.t 12)),m_ 3 13]) (.seq (.seq (.gh) (.seq (.dreg [0,0,2,6,0,16,48,112,240,510,1023,2047] [m_ 14 0,m_ 15 0,o_ 16 (.nilc (.t 15)),o_ 17 (.ld1 56 (.t 16)),m_ 18 0,o_ 19 (.nilc (.t 18)),o_ 20 (.ld1 56 (.t 19)),o_ 21 (.len 56 (.t 20)),o_ 22 (.bin .sub (.t 21) (.k (.int .i64 1))),o_ 23 (.shr 3 1 8 (.t 17) (.t 22)),o_ 24 (.nilc (.t 14)),n_ (.st1 56 (.t 24) (.t 23))]) (.gh))) (.seq (.reg [m_ 25 3,o_ 26 (.mki 3 (.t 25)),m_ 2 26]) (.ret))))
def r1215:List RR:=[.t 2]
theorem ok1215:okFn Go.Proofs.Tryz.prog 215 27 c1215 r1215 1=true:=by kernel_rfl
def c1216:SCode:=
 .seq (.reg [m_ 7 1,o_ 8 (.tas 3 (.t 7)),m_ 6 8,o_ 9 (.ext (.t 6) 0),o_ 10 (.ext (.t 6) 1),m_ 4 9,m_ 5 10]) (.seq (.reg [m_ 11 5]) (.cond (.t 11) (.seq (.gh) (.seq (.reg [m_ 12 0,m_ 13 0,o_ 14 (.nilc (.t 13)),o_ 15 (.ld1 56 (.t 14)),m_ 16 4,o_ 17 (.lit 3 1 8 [.t 16]),o_ 18 (.appm 3 1 8 (.t 15) (.t 17)),o_ 19 (.nilc (.t 12)),n_ (.st1 56 (.t 19) (.t 18))]) (.gh))) (.skip)))
def r1216:List RR:=[]
theorem ok1216:okFn Go.Proofs.Tryz.prog 216 20 c1216 r1216 2=true:=by kernel_rfl
def c1217:SCode:=
 .dreg [0,0,0,0,0,0,48,112,0,0,768,1792,4083,8179,16383,32767] [m_ 6 0,m_ 7 1,m_ 8 0,m_ 9 2,m_ 10 0,m_ 11 2,o_ 12 (.iad 3 1 (.t 10) (.t 11)),o_ 13 (.ld1 3 (.t 12)),m_ 14 0,m_ 15 1,o_ 16 (.iad 3 1 (.t 14) (.t 15)),o_ 17 (.ld1 3 (.t 16)),o_ 18 (.iad 3 1 (.t 6) (.t 7)),n_ (.st1 3 (.t 18) (.t 13)),o_ 19 (.iad 3 1 (.t 8) (.t 9)),n_ (.st1 3 (.t 19) (.t 17))]
def r1217:List RR:=[]
theorem ok1217:okFn Go.Proofs.Tryz.prog 217 20 c1217 r1217 3=true:=by kernel_rfl
end Go.Abs

namespace Go.Abs
open Go.Proofs
def ic (l:List Int):List (List Cell):=l.map fun n=>[.v (.int .i64 n)]
@[simp] theorem ic_length (l:List Int):(ic l).length=l.length:=by simp [ic]
@[simp] theorem ic_at (l:List Int) (i:Nat) (h:i < (ic l).length):(ic l)[i]=[.v (.int .i64 (l[i]'(by simpa using h)))]:=by simp [ic]
theorem ic_get {l:List Int} {i:Nat} (h:i < l.length):(ic l)[i]? = some [.v (.int .i64 l[i])]:=by simp [ic,h]
@[simp] theorem ic_set (l:List Int) (i:Nat) (x:Int):(ic l).set i [.v (.int .i64 x)]=ic (l.set i x):=by simp [ic,List.map_set]
@[simp] theorem ic_append (l m:List Int):ic l ++ ic m=ic (l ++ m):=by simp [ic]
def hrow (l:List Int):Obj:=.mrow 3 1 8 (ic l)
def hbox (t:Nat):Obj:=.box 56 [.own 1012200 t]
theorem zp31 (t:Nat) (l:List Int):Spec Tryz.prog 31 [.c (.own 1012200 t)] [(1012200,t,hrow l)] (ib l.length) [(1012200,t,hrow l)]:=by
 refine spec_one (base:=1031000) ok1031 rfl fun σ h0 oK gK hr=>?_
 have s0:σ.sl 0=.c (.own 1012200 t):=h0 0
 clear h0 hr
 unfold c1031
 simp [s0,oK,gK,hrow]
 exact EndU_one (by simp [r1031]) (by simp [r1031,ib]) (by simp [oK,hrow]) (by simp [gK])
theorem zn31 (l:List Int):Fn Tryz.prog 31 [is l] (ib l.length):=by
 refine fn_of (base:=1031000) ok1031 rfl fun σ h0 hr=>?_
 have s0:σ.sl 0=is l:=h0 0
 clear h0 hr
 unfold c1031
 simp [s0,is,r1031,ib]
theorem zp214 (t:Nat) (l:List Int) (i j:Nat) (hi:i < l.length) (hj:j < l.length):Spec Tryz.prog 214 [.c (.own 1012200 t),ib i,ib j] [(1012200,t,hrow l)] (bb (decide (l[i] < l[j]))) [(1012200,t,hrow l)]:=by
 refine spec_one (base:=1214000) ok1214 rfl fun σ h0 oK gK hr=>?_
 have s0:σ.sl 0=.c (.own 1012200 t):=h0 0
 have s1:σ.sl 1=.c (.v (.int .i64 i)):=h0 1
 have s2:σ.sl 2=.c (.v (.int .i64 j)):=h0 2
 clear h0 hr
 unfold c1214
 simp
 refine W_dregA ?_
 simp [s0,s1,s2,oK,gK,hrow,hi,hj,ic_get hi,ic_get hj]
 refine realC_n ?_
 simp
 exact EndU_one (by simp [r1214]) (by simp [r1214,bb]) (by simp [oK,hrow]) (by simp [gK])
def swp (l:List Int) (i j:Nat):List Int:=(l.set i l[j]!).set j l[i]!
def w1217:List (List Nat):=[[],[],[],[],[],[],[],[],[],[],[],[],[],[1012200],[],[1012200]]
def f1217:List (List Nat):=[[],[],[1012200],[1012200],[],[],[],[],[],[],[],[],[],[],[],[]]
theorem zp217 (t:Nat) (l:List Int) (i j:Nat) (hi:i < l.length) (hj:j < l.length):Spec Tryz.prog 217 [.c (.own 1012200 t),ib i,ib j] [(1012200,t,hrow l)] (.tup []) [(1012200,t,hrow (swp l i j))]:=by
 refine spec_one (base:=1217000) ok1217 rfl fun σ h0 oK gK hr=>?_
 have s0:σ.sl 0=.c (.own 1012200 t):=h0 0
 have s1:σ.sl 1=.c (.v (.int .i64 i)):=h0 1
 have s2:σ.sl 2=.c (.v (.int .i64 j)):=h0 2
 clear h0 hr
 unfold c1217
 refine W_dregD w1217 f1217 (by decide) ?_
 unfold w1217 f1217
 simp [s0,s1,s2,oK,gK,hrow,hi,hj,ic_get hi,ic_get hj]
 refine realC_n ?_
 simp
 exact EndU_one (by simp [r1217]) (by simp [r1217]) (by simp [oK,hrow,swp,hi,hj]) (by simp [gK])
def ifI (n:Int):AV:=.c (.v (.iface 3 (.int .i64 n)))
theorem zp216 (tB t:Nat) (l:List Int) (n:Int) (hl:(l.length + 1) * 8 ≤ 140737488355328):Spec Tryz.prog 216 [.c (.ref 1012067 tB 0),ifI n] [(1012067,tB,hbox t),(1012200,t,hrow l)] (.tup []) [(1012067,tB,hbox (t + 1)),(1012200,t + 1,hrow (l ++ [n]))]:=by
 refine spec_two (base:=1216000) ok1216 rfl (by decide) fun σ h0 oB gB oK gK hr=>?_
 have s0:σ.sl 0=.c (.ref 1012067 tB 0):=h0 0
 have s1:σ.sl 1=.c (.v (.iface 3 (.int .i64 n))):=h0 1
 clear h0 hr
 unfold c1216
 simp [s0,s1]
 refine W_stl (B:=1012067) (tb:=56) (cs:=[.own 1012200 t]) (i:=0) (k:=1012200) (t:=t) (K:=1012201) (q:=hrow l) (by simp [oB,hbox]) rfl (by simp [gK]) (by simp [oK]) rfl (by decide) ?_
 simp [s0,s1,oB,gB,oK,gK,hbox,hrow]
 refine ⟨by simp [room],by simpa [room] using hl,W_stl (B:=1012067) (tb:=56) (cs:=[.own 1216018 (σ.tg 1216018 + 1)]) (i:=0) (k:=1216018) (t:=σ.tg 1216018 + 1) (K:=1012200) (q:=hrow (l ++ [n])) (by simp) rfl (by simp) (by simp [hrow,ic]) rfl (by decide) ?_⟩
 rw [onEndU_n]
 refine EndU_two ?_ ?_ ?_ ?_ ?_ ?_ <;> simp [r1216,gK,gB,ic,hrow]
theorem zp216n (tB t:Nat) (n:Int):Spec Tryz.prog 216 [.c (.ref 1012067 tB 0),ifI n] [(1012067,tB,hbox t),(1012200,t,.row 3 1 8 [])] (.tup []) [(1012067,tB,hbox (t + 1)),(1012200,t + 1,hrow [n])]:=by
 refine spec_two (base:=1216000) ok1216 rfl (by decide) fun σ h0 oB gB oK gK hr=>?_
 have s0:σ.sl 0=.c (.ref 1012067 tB 0):=h0 0
 have s1:σ.sl 1=.c (.v (.iface 3 (.int .i64 n))):=h0 1
 clear h0 hr
 unfold c1216
 simp [s0,s1]
 refine W_stl (B:=1012067) (tb:=56) (cs:=[.own 1012200 t]) (i:=0) (k:=1012200) (t:=t) (K:=1012201) (q:=.row 3 1 8 []) (by simp [oB,hbox]) rfl (by simp [gK]) (by simp [oK]) rfl (by decide) ?_
 simp [s0,s1,oB,gB,oK,gK,hbox,hrow]
 refine ⟨by simp [room],W_stl (B:=1012067) (tb:=56) (cs:=[.own 1216018 (σ.tg 1216018 + 1)]) (i:=0) (k:=1216018) (t:=σ.tg 1216018 + 1) (K:=1012200) (q:=hrow [n]) (by simp) rfl (by simp) (by simp [hrow,ic]) rfl (by decide) ?_⟩
 rw [onEndU_n]
 refine EndU_two ?_ ?_ ?_ ?_ ?_ ?_ <;> simp [r1216,gK,gB,ic,hrow]
theorem ic_take (l:List Int) (n:Int):(ic (l ++ [n])).take l.length=ic l:=by rw [← ic_append,List.take_append_of_le_length (by simp),List.take_of_length_le (by simp)]
def w1215:List (List Nat):=[[],[],[],[],[],[],[],[],[],[1215023,1012201],[],[1012067]]
def f1215:List (List Nat):=[[1215023,1012201],[],[],[],[],[],[],[],[],[],[1215023,1012201],[]]
theorem zp215 (tB t:Nat) (l:List Int) (n:Int) (hl:(l.length + 1) * 8 ≤ 140737488355328):Spec Tryz.prog 215 [.c (.ref 1012067 tB 0)] [(1012067,tB,hbox t),(1012200,t,hrow (l ++ [n]))] (ifI n) [(1012067,tB,hbox (t + 1)),(1012200,t + 1,hrow l)]:=by
 refine spec_two (base:=1215000) ok1215 rfl (by decide) fun σ h0 oB gB oK gK hr=>?_
 have s0:σ.sl 0=.c (.ref 1012067 tB 0):=h0 0
 clear h0 hr
 unfold c1215
 simp
 refine W_dregA ?_
 have w1:IntKind.wrap .i64 (l.length:Int)=l.length:=wrap_id (by omega) (by omega)
 simp [s0,oB,gB,oK,gK,hbox,hrow,w1]
 refine ⟨by omega,realC_n ?_⟩
 simp
 refine W_stl (B:=1012067) (tb:=56) (cs:=[.own 1012200 t]) (i:=0) (k:=1012200) (t:=t) (K:=1012201) (q:=hrow (l ++ [n])) (by simp [oB,hbox]) rfl (by simp [gK]) (by simp [oK]) rfl (by decide) ?_
 simp
 refine W_dregD w1215 f1215 (by decide) ?_
 unfold w1215 f1215
 simp [s0,oB,gB,oK,gK,hbox,hrow,w1]
 refine ⟨⟨by omega,by simpa [room] using hl⟩,realC_n ?_⟩
 simp
 refine W_stl (B:=1012067) (tb:=56) (cs:=[.own 1215023 (σ.tg 1215023 + 1)]) (i:=0) (k:=1215023) (t:=σ.tg 1215023 + 1) (K:=1012200) (q:=hrow l) (by simp) rfl (by simp) (by simp [hrow,ic_take]) rfl (by decide) ?_
 simp
 refine EndU_two ?_ ?_ ?_ ?_ ?_ ?_ <;> simp [r1215,gK,gB,hrow,ifI]
end Go.Abs

namespace Go.Abs
open Go.Proofs
@[simp] theorem swp_length (l:List Int) (i j:Nat):(swp l i j).length=l.length:=by simp [swp]
def upL (l:List Int) (j:Nat):List Int:=
 if h:j=0 then l else if l[j]! < l[(j - 1) / 2]! then upL (swp l ((j - 1) / 2) j) ((j - 1) / 2) else l
termination_by j
decreasing_by omega
theorem upL_length (l:List Int) (j:Nat):(upL l j).length=l.length:=by
 induction j using Nat.strongRecOn generalizing l with
 | ind j ih=>
  rw [upL]
  split
  ·rfl
  ·split
   ·rw [ih _ (by omega)];simp
   ·rfl
theorem half {j:Nat} (h:j ≠ 0):((j:Int) - 1).tdiv 2=(((j - 1) / 2:Nat):Int):=by
 rw [Int.tdiv_eq_ediv_of_nonneg (by omega)];omega
def ifB (tB:Nat):AV:=.c (.ifc 55 1012067 tB)
theorem zp56 (tB t:Nat) (l:List Int) (j:Nat) (hj:j < l.length) (hl:l.length < 1000000):Spec Tryz.prog 56 [ifB tB,ib j] [(1012067,tB,hbox t),(1012200,t,hrow l)] (.tup []) [(1012067,tB,hbox t),(1012200,t,hrow (upL l j))]:=by
 refine spec_two (base:=1056000) ok1056 rfl (by decide) fun σ h0 oB gB oK gK hr=>?_
 have s0:σ.sl 0=.c (.ifc 55 1012067 tB):=h0 0
 have s1:σ.sl 1=.c (.v (.int .i64 j)):=h0 1
 clear h0 hr
 unfold c1056
 rw [W_block]
 refine W_loop (fun m σ=>∃ l':List Int,upL l' m=upL l j ∧ l'.length=l.length ∧ m < l.length ∧ σ.sl 0=.c (.ifc 55 1012067 tB) ∧ σ.sl 1=.c (.v (.int .i64 m)) ∧ σ.ob 1012067=some (hbox t) ∧ σ.tg 1012067=tB ∧ σ.ob 1012200=some (hrow l') ∧ σ.tg 1012200=t) j ⟨l,rfl,rfl,hj,s0,s1,oB,gB,oK,gK⟩ ?_
 clear s0 s1 oB gB oK gK σ
 rintro m σ ⟨l',h1,h2,h3,s0,s1,oB,gB,oK,gK⟩
 unfold c1056b0
 by_cases hm:m=0
 ·subst hm
  have w1:IntKind.wrap .i64 (-1:Int)=-1:=by decide
  have w0:IntKind.wrap .i64 (0:Int)=0:=by decide
  simp [s0,s1,oB,gB,oK,gK,w1,w0,hbox]
  refine GCall.fn (res:=bb false) (fun h=>by cases h) rfl (by simp) rfl fun _=>?_
  simp [bb]
  have e:l'=upL l j:=by rw [← h1,upL];simp
  refine EndU_two ?_ ?_ ?_ ?_ ?_ ?_ <;> simp [r1056,gK,gB,hrow,oB,oK,hbox,e]
 ·obtain ⟨i,hi⟩:∃ i,i=(m - 1) / 2:=⟨_,rfl⟩
  have w1:IntKind.wrap .i64 ((m:Int) - 1)=(m:Int) - 1:=wrap_id (by omega) (by omega)
  have w2:IntKind.wrap .i64 (((m:Int) - 1).tdiv 2)=(i:Int):=by rw [half hm,hi];exact wrap_id (by omega) (by omega)
  have hne:¬ ((i:Int)=(m:Int)):=by omega
  have him:i < m:=by omega
  rw [upL,dif_neg hm,← hi] at h1
  simp [s0,s1,oB,gB,oK,gK,w1,w2,hne,hbox]
  refine GCall.ro (rs:=[]) (args:=[.c (.own 1012200 t),ib m,ib i]) [(1012200,t,hrow l')] (fun _=>by simpa [refs] using zp214 t l' m i (by omega) (by omega)) (by simp [ib,toD2,toD1,toD,oK,gK,hrow]) (by simp) rfl (Ro.one (by simp [oK]) (by simp [gK]) rfl) fun _=>?_
  have e1:l'[m]! = l'[m]'(by omega):=getElem!_pos l' m (by omega)
  have e2:l'[i]! = l'[i]'(by omega):=getElem!_pos l' i (by omega)
  rw [e1,e2] at h1
  by_cases hlt:l'[m]'(by omega) < l'[i]'(by omega)
  ·rw [if_pos hlt] at h1
   simp [bb,hlt,s0,s1,oB,gB,oK,gK,hbox]
   refine ECall.one (q:=hrow l') (q':=hrow (swp l' i m)) (t:=t) (K:=1012200) (args:=[.c (.own 1012200 t),ib i,ib m]) (zp217 t l' i m (by omega) (by omega)) (by simp [ib,toD2,toD1,toD,oK,gK,hrow]) (by simp) rfl rfl (by simp [oK]) (by simp [gK]) fun _=>?_
   simp
   refine ⟨i,him,swp l' i m,h1,by simp [h2],by omega,?_⟩
   simp [s0,s1,oB,gB,oK,gK,hbox]
  ·rw [if_neg hlt] at h1
   simp [bb,hlt]
   refine EndU_two ?_ ?_ ?_ ?_ ?_ ?_ <;> simp [r1056,gK,gB,hrow,oB,oK,hbox,h1]
def downL (n:Nat) (l:List Int) (i:Nat):List Int × Nat:=
 if h:2 * i + 1 < n then
  let j:=if 2 * i + 2 < n ∧ l[2 * i + 2]! < l[2 * i + 1]! then 2 * i + 2 else 2 * i + 1
  if l[j]! < l[i]! then downL n (swp l i j) j else (l,i)
 else (l,i)
termination_by n - i
decreasing_by all_goals (split <;> omega)
theorem zp57 (tB t:Nat) (l:List Int) (i0 n:Nat) (hn:n ≤ l.length) (hi0:i0 ≤ n) (hl:l.length < 1000000) :
  Spec Tryz.prog 57 [ifB tB,ib i0,ib n] [(1012067,tB,hbox t),(1012200,t,hrow l)] (bb (decide (i0 < (downL n l i0).2))) [(1012067,tB,hbox t),(1012200,t,hrow (downL n l i0).1)]:=by
 refine spec_two (base:=1057000) ok1057 rfl (by decide) fun σ h0 oB gB oK gK hr=>?_
 have s0:σ.sl 0=.c (.ifc 55 1012067 tB):=h0 0
 have s1:σ.sl 1=.c (.v (.int .i64 i0)):=h0 1
 have s2:σ.sl 2=.c (.v (.int .i64 n)):=h0 2
 clear h0 hr
 unfold c1057
 simp [s0,s1,s2,-W_block]
 rw [W_block]
 refine W_loop (fun m σ=>∃ (l':List Int) (i:Nat),downL n l' i=downL n l i0 ∧ l'.length=l.length ∧ m=n - i ∧ i ≤ n ∧ σ.sl 0=.c (.ifc 55 1012067 tB) ∧ σ.sl 1=.c (.v (.int .i64 i0)) ∧ σ.sl 2=.c (.v (.int .i64 n)) ∧ σ.sl 7=.c (.v (.int .i64 i)) ∧ σ.ob 1012067=some (hbox t) ∧ σ.tg 1012067=tB ∧ σ.ob 1012200=some (hrow l') ∧ σ.tg 1012200=t) (n - i0) ⟨l,i0,rfl,rfl,rfl,hi0,by simp [s0],by simp [s1],by simp [s2],by simp,by simp [oB],by simp [gB],by simp [oK],by simp [gK]⟩ ?_
 clear s0 s1 s2 oB gB oK gK σ
 rintro m σ ⟨l',i,h1,h2,hm,h3,s0,s1,s2,s7,oB,gB,oK,gK⟩
 unfold c1057b0
 have w1:IntKind.wrap .i64 (2 * (i:Int))=2 * (i:Int):=wrap_id (by omega) (by omega)
 have w2:IntKind.wrap .i64 (2 * (i:Int) + 1)=2 * (i:Int) + 1:=wrap_id (by omega) (by omega)
 have w3:IntKind.wrap .i64 (2 * (i:Int) + 1 + 1)=2 * (i:Int) + 1 + 1:=wrap_id (by omega) (by omega)
 by_cases hj:2 * i + 1 < n
 ·rw [downL,dif_pos hj] at h1
  have n1:¬ ((n:Int) ≤ 2 * (i:Int) + 1):=by omega
  have n2:¬ (2 * (i:Int) + 1 < 0):=by omega
  rw [W_block,W_seq]
  simp [s0,s1,s2,s7,oB,gB,oK,gK,w1,w2,w3,n1,n2,-W_seq]
  rw [W_seq,W_seq]
  simp [s0,s1,s2,s7,oB,gB,oK,gK,w1,w2,w3,n1,n2,-W_seq]
  rw [W_seq]
  simp [s0,s1,s2,s7,oB,gB,oK,gK,w1,w2,w3,n1,n2,-W_seq]
  rw [W_seq]
  obtain ⟨j,ej⟩:∃ j,j=if 2 * i + 2 < n ∧ l'[2 * i + 2]! < l'[2 * i + 1]! then 2 * i + 2 else 2 * i + 1:=⟨_,rfl⟩
  simp only [← ej] at h1
  have hjn:j < n ∧ i < j:=by rw [ej];split <;> omega
  refine W_cut (fun σ=>σ.sl 0=.c (.ifc 55 1012067 tB) ∧ σ.sl 1=.c (.v (.int .i64 i0)) ∧ σ.sl 2=.c (.v (.int .i64 n)) ∧ σ.sl 7=.c (.v (.int .i64 i)) ∧ σ.sl 9=.c (.v (.int .i64 j)) ∧ σ.ob 1012067=some (hbox t) ∧ σ.tg 1012067=tB ∧ σ.ob 1012200=some (hrow l') ∧ σ.tg 1012200=t) ?_ ?_
  ·by_cases hk:2 * i + 2 < n
   ·have hk':2 * (i:Int) + 1 + 1 < n:=by omega
    simp [s0,s1,s2,s7,oB,gB,oK,gK,w1,w2,w3,n1,n2,hk',hbox]
    have e1:l'[2 * i + 2]! = l'[2 * i + 2]'(by omega):=getElem!_pos l' _ (by omega)
    have e2:l'[2 * i + 1]! = l'[2 * i + 1]'(by omega):=getElem!_pos l' _ (by omega)
    rw [e1,e2] at ej
    have sp:=zp214 t l' (2 * i + 2) (2 * i + 1) (by omega) (by omega)
    refine GCall.ro (rs:=[]) (args:=[.c (.own 1012200 t),ib (2 * i + 2:Nat),ib (2 * i + 1:Nat)]) [(1012200,t,hrow l')] (fun _=>by simpa [refs] using sp) (by simp [ib,toD2,toD1,toD,oK,gK,hrow];omega) (by simp) rfl (Ro.one (by simp [oK]) (by simp [gK]) rfl) fun _=>?_
    by_cases hlt:l'[2 * i + 2]'(by omega) < l'[2 * i + 1]'(by omega)
    ·rw [if_pos ⟨hk,hlt⟩] at ej
     simp [bb,hlt,s0,s1,s2,s7,oB,gB,oK,gK,hbox,ej]
     omega
    ·rw [if_neg (fun h=>hlt h.2)] at ej
     simp [bb,hlt,s0,s1,s2,s7,oB,gB,oK,gK,hbox,ej]
   ·have hk':¬ (2 * (i:Int) + 1 + 1 < n):=by omega
    rw [if_neg (fun h=>hk h.1)] at ej
    simp [s0,s1,s2,s7,oB,gB,oK,gK,w1,w2,w3,n1,n2,hk',hbox]
    refine GCall.fn (res:=bb false) (fun h=>by cases h) rfl (by simp) rfl fun _=>?_
    simp [bb,s0,s1,s2,s7,oB,gB,oK,gK,hbox,ej]
    try omega
  ·clear s0 s1 s2 s7 oB gB oK gK σ
   rintro σ ⟨s0,s1,s2,s7,s9,oB,gB,oK,gK⟩
   simp [s0,s1,s2,s7,s9,oB,gB,oK,gK,hbox]
   refine ECall.ro (rs:=[]) (args:=[.c (.own 1012200 t),ib j,ib i]) [(1012200,t,hrow l')] (by simpa [refs] using zp214 t l' j i (by omega) (by omega)) (by simp [ib,toD2,toD1,toD,oK,gK,hrow]) (by simp) rfl (Ro.one (by simp [oK]) (by simp [gK]) rfl) fun _=>?_
   have e1:l'[j]! = l'[j]'(by omega):=getElem!_pos l' _ (by omega)
   have e2:l'[i]! = l'[i]'(by omega):=getElem!_pos l' _ (by omega)
   rw [e1,e2] at h1
   by_cases hlt:l'[j]'(by omega) < l'[i]'(by omega)
   ·rw [if_pos hlt] at h1
    simp [bb,hlt,s0,s1,s2,s7,s9,oB,gB,oK,gK,hbox]
    refine ECall.one (q:=hrow l') (q':=hrow (swp l' i j)) (t:=t) (K:=1012200) (args:=[.c (.own 1012200 t),ib i,ib j]) (zp217 t l' i j (by omega) (by omega)) (by simp [ib,toD2,toD1,toD,oK,gK,hrow]) (by simp) rfl rfl (by simp [oK]) (by simp [gK]) fun _=>?_
    simp [s0,s1,s2,s7,s9,oB,gB,oK,gK,hbox]
    exact ⟨n - j,by omega,swp l' i j,j,h1,by simp [h2],rfl,by omega,rfl,rfl⟩
   ·rw [if_neg hlt] at h1
    simp [bb,hlt,s0,s1,s2,s7,s9,oB,gB,oK,gK,hbox]
    refine EndU_two ?_ ?_ ?_ ?_ ?_ ?_ <;> simp [r1057,gK,gB,oB,oK,bb,← h1,hbox]
 ·rw [downL,dif_neg hj] at h1
  have n1:(n:Int) ≤ 2 * (i:Int) + 1:=by omega
  simp [s0,s1,s2,s7,oB,gB,oK,gK,w1,w2,w3,n1,← h1]
  refine EndU_two ?_ ?_ ?_ ?_ ?_ ?_ <;> simp [r1057,gK,gB,oB,oK,bb]
theorem downL_length (n:Nat) (l:List Int) (i:Nat):(downL n l i).1.length=l.length:=by
 induction h:n - i using Nat.strongRecOn generalizing l i with
 | ind m ih=>
  rw [downL]
  split
  ·simp only
   obtain ⟨j,ej⟩:∃ j,j=if 2 * i + 2 < n ∧ l[2 * i + 2]! < l[2 * i + 1]! then 2 * i + 2 else 2 * i + 1:=⟨_,rfl⟩
   rw [← ej]
   have hj:i < j ∧ j < n:=by rw [ej];split <;> omega
   split
   ·rw [ih (n - j) (by omega) _ _ rfl];simp
   ·rfl
  ·rfl
def pushL (l:List Int) (n:Int):List Int:=upL (l ++ [n]) l.length
theorem zp30 (tB t:Nat) (l:List Int) (n:Int) (hl:l.length < 999999) :
  Spec Tryz.prog 30 [ifB tB,ifI n] [(1012067,tB,hbox t),(1012200,t,hrow l)] (.tup []) [(1012067,tB,hbox (t + 1)),(1012200,t + 1,hrow (pushL l n))]:=by
 refine spec_two (base:=1030000) ok1030 rfl (by decide) fun σ h0 oB gB oK gK hr=>?_
 have s0:σ.sl 0=.c (.ifc 55 1012067 tB):=h0 0
 have s1:σ.sl 1=.c (.v (.iface 3 (.int .i64 n))):=h0 1
 clear h0 hr
 unfold c1030
 simp [s0,s1,oB,gB,oK,gK,hbox]
 refine ECall.hp (r:=1) (args:=[.c (.ref 1012067 tB 0),ifI n]) (zp216 tB t l n (by omega)) (by simp [toD2,toD1,toD,ifI]) (by simp) rfl (.inr rfl) (by decide) rfl (by simp [oB,hbox]) (by simp [gB]) (by simp [oK]) (by simp [gK]) fun _=>?_
 simp [s0,s1,oB,gB,oK,gK,hbox]
 refine ECall.ro (rs:=[]) (args:=[.c (.own 1012200 (t + 1))]) [(1012200,t + 1,hrow (l ++ [n]))] (by simpa [refs] using zp31 (t + 1) (l ++ [n])) (by simp [toD2,toD1,toD,gK,hrow]) (by simp) rfl (Ro.one (by simp) (by simp [gK]) rfl) fun _=>?_
 have w1:IntKind.wrap .i64 (l.length:Int)=l.length:=wrap_id (by omega) (by omega)
 simp [s0,s1,oB,gB,oK,gK,hbox,ib,w1]
 refine ECall.hp (r:=0) (t:=t + 1) (args:=[ifB tB,ib l.length]) (zp56 tB (t + 1) (l ++ [n]) l.length (by simp) (by simp;try omega)) (by simp [toD2,toD1,toD,ifB,ib]) (by simp) rfl (.inl rfl) (by decide) rfl (by simp [gK,hbox]) (by simp [gB]) (by simp) (by simp [gK]) fun _=>?_
 simp
 refine EndU_two ?_ ?_ ?_ ?_ ?_ ?_ <;> simp [r1030,gK,gB,hbox,pushL]
theorem zp30n (tB t:Nat) (n:Int) :
  Spec Tryz.prog 30 [ifB tB,ifI n] [(1012067,tB,hbox t),(1012200,t,.row 3 1 8 [])] (.tup []) [(1012067,tB,hbox (t + 1)),(1012200,t + 1,hrow (pushL [] n))]:=by
 refine spec_two (base:=1030000) ok1030 rfl (by decide) fun σ h0 oB gB oK gK hr=>?_
 have s0:σ.sl 0=.c (.ifc 55 1012067 tB):=h0 0
 have s1:σ.sl 1=.c (.v (.iface 3 (.int .i64 n))):=h0 1
 clear h0 hr
 unfold c1030
 simp [s0,s1,oB,gB,oK,gK,hbox]
 refine ECall.hp (r:=1) (args:=[.c (.ref 1012067 tB 0),ifI n]) (zp216n tB t n) (by simp [toD2,toD1,toD,ifI]) (by simp) rfl (.inr rfl) (by decide) rfl (by simp [oB,hbox]) (by simp [gB]) (by simp [oK]) (by simp [gK]) fun _=>?_
 simp [s0,s1,oB,gB,oK,gK,hbox]
 refine ECall.ro (rs:=[]) (args:=[.c (.own 1012200 (t + 1))]) [(1012200,t + 1,hrow [n])] (by simpa [refs] using zp31 (t + 1) [n]) (by simp [toD2,toD1,toD,gK,hrow]) (by simp) rfl (Ro.one (by simp) (by simp [gK]) rfl) fun _=>?_
 have w1:IntKind.wrap .i64 (0:Int)=0:=wrap_id (by omega) (by omega)
 simp [s0,s1,oB,gB,oK,gK,hbox,ib,w1]
 refine ECall.hp (r:=0) (t:=t + 1) (args:=[ifB tB,ib 0]) (zp56 tB (t + 1) [n] 0 (by simp) (by simp;try omega)) (by simp [toD2,toD1,toD,ifB,ib]) (by simp) rfl (.inl rfl) (by decide) rfl (by simp [gK,hbox]) (by simp [gB]) (by simp) (by simp [gK]) fun _=>?_
 simp
 refine EndU_two ?_ ?_ ?_ ?_ ?_ ?_ <;> simp [r1030,gK,gB,hbox,pushL]
def popL (l:List Int):List Int:=(downL (l.length - 1) (swp l 0 (l.length - 1)) 0).1
theorem last_of {l:List Int} (h:0 < l.length):l=l.dropLast ++ [l[l.length - 1]!]:=by
 have h1:l ≠ []:=by intro e;rw [e] at h;simp at h
 rw [getElem!_pos l _ (by omega),← List.getLast_eq_getElem h1,List.dropLast_concat_getLast h1]
theorem popL_length (l:List Int):(popL l).length=l.length:=by simp [popL,downL_length]
theorem zp32 (tB t:Nat) (l:List Int) (h0:0 < l.length) (hl:l.length < 999999) :
  Spec Tryz.prog 32 [ifB tB] [(1012067,tB,hbox t),(1012200,t,hrow l)] (ifI (popL l)[l.length - 1]!) [(1012067,tB,hbox (t + 1)),(1012200,t + 1,hrow (popL l).dropLast)]:=by
 refine spec_two (base:=1032000) ok1032 rfl (by decide) fun σ hs0 oB gB oK gK hr=>?_
 have s0:σ.sl 0=.c (.ifc 55 1012067 tB):=hs0 0
 clear hs0 hr
 unfold c1032
 simp [s0,oB,gB,oK,gK,hbox]
 refine ECall.ro (rs:=[]) (args:=[.c (.own 1012200 t)]) [(1012200,t,hrow l)] (by simpa [refs] using zp31 t l) (by simp [toD2,toD1,toD,gK,oK,hrow]) (by simp) rfl (Ro.one (by simp [oK]) (by simp [gK]) rfl) fun _=>?_
 obtain ⟨m,hm⟩:∃ m,m=l.length - 1:=⟨_,rfl⟩
 have w1:IntKind.wrap .i64 ((l.length:Int) - 1)=m:=by rw [wrap_id (by omega) (by omega)];omega
 simp [s0,oB,gB,oK,gK,hbox,ib,w1]
 refine ECall.one (q:=hrow l) (q':=hrow (swp l 0 m)) (t:=t) (K:=1012200) (args:=[.c (.own 1012200 t),ib (0:Nat),ib m]) (zp217 t l 0 m (by omega) (by omega)) (by simp [ib,toD2,toD1,toD,oK,gK,hrow]) (by simp) rfl rfl (by simp [oK]) (by simp [gK]) fun _=>?_
 simp [s0,oB,gB,oK,gK,hbox,ib,w1]
 refine ECall.hp (r:=0) (t:=t) (args:=[ifB tB,ib (0:Nat),ib m]) (zp57 tB t (swp l 0 m) 0 m (by simp;omega) (by omega) (by simp;omega)) (by simp [toD2,toD1,toD,ifB,ib]) (by simp) rfl (.inl rfl) (by decide) rfl (by simp [oB,hbox]) (by simp [gB]) (by simp) (by simp [gK]) fun _=>?_
 simp [s0,oB,gB,oK,gK,hbox,ib,w1]
 have hp:(downL m (swp l 0 m) 0).1=popL l:=by rw [popL,← hm]
 rw [hp]
 have hpl:=last_of (l:=popL l) (by rw [popL_length];exact h0)
 rw [popL_length] at hpl
 refine ECall.hp (r:=1) (t:=t) (q:=hrow (popL l)) (q':=hrow (popL l).dropLast) (args:=[.c (.ref 1012067 tB 0)]) (by
  have:=zp215 tB t (popL l).dropLast (popL l)[l.length - 1]! (by simp [popL_length];omega)
  rw [← hpl] at this
  exact this) (by simp [toD2,toD1,toD]) (by simp) rfl (.inr rfl) (by decide) rfl (by simp [gK]) (by simp [gB]) (by simp) (by simp [gK]) fun _=>?_
 simp [ifI]
 refine EndU_two ?_ ?_ ?_ ?_ ?_ ?_ <;> simp [r1032,gK,gB,hbox]
end Go.Abs

namespace Go.Abs
open Go.Proofs
abbrev Edge2:=Int × Int
def ec (p:Edge2):List Cell:=[.v (.int .i64 p.1),.v (.int .i64 p.2)]
@[simp] theorem ec_len (p:Edge2):(ec p).length=2:=rfl
@[simp] theorem ec_take (p:Edge2):(ec p).take 2=ec p:=rfl
@[simp] theorem ec_toD (σ:St) (p:Edge2):(ec p).map (toD σ)=ec p:=rfl
@[simp] theorem ec_keys (p:Edge2):keysCs (ec p)=[]:=rfl
@[simp] theorem ec_put (p:Edge2) (a b:Cell):putC [a,b] 0 (ec p)=ec p:=rfl
def ecs (l:List Edge2):List (List Cell):=l.map ec
def eds (l:List Edge2):AV:=.c (.sl 2 16 (ecs l))
@[simp] theorem ecs_length (l:List Edge2):(ecs l).length=l.length:=by simp [ecs]
@[simp] theorem ecs_at (l:List Edge2) (i:Nat) (h:i < (ecs l).length):(ecs l)[i]=ec (l[i]'(by simpa using h)):=by simp [ecs]
theorem real_eds {l:List Edge2} (h:Real (eds l)):l.length * 16 ≤ 140737488355328:=by simpa [room] using real_sl h
def badE (n:Int) (p:Edge2):Bool:=((decide (p.1 < 0) || decide (n ≤ p.1)) || decide (p.2 < 0)) || decide (n ≤ p.2)
def fstBad (n:Int):List Edge2 → Nat → Int
 | [],_=>-1
 | p :: r,i=>if badE n p then i else fstBad n r (i + 1)
theorem fstBad_any (n:Int):∀ (l:List Edge2) (i:Nat),decide (0 ≤ fstBad n l i)=l.any (badE n)
 | [],i=>by simp [fstBad]
 | p :: r,i=>by
  simp only [fstBad,List.any_cons]
  by_cases h:badE n p=true
  ·simp [h]
  ·simp only [h];simpa using fstBad_any n r (i + 1)
def nbox (n:Int):Obj:=.box 3 [.v (.int .i64 n)]
theorem zp28 (tn:Nat) (n:Int) (p:Edge2):Spec Tryz.prog 28 [.agg (ec p),.c (.ref 1012002 tn 0)] [(1012002,tn,nbox n)] (bb (badE n p)) [(1012002,tn,nbox n)]:=by
 refine spec_one (base:=1028000) ok1028 rfl fun σ h0 oK gK hr=>?_
 have s0:σ.sl 0=.agg (ec p):=h0 0
 have s1:σ.sl 1=.c (.ref 1012002 tn 0):=h0 1
 clear h0 hr
 obtain ⟨a,b⟩:=p
 unfold c1028
 by_cases c1:a < 0
 ·simp [s0,s1,oK,gK,nbox,ec,c1]
  refine EndU_one ?_ ?_ ?_ ?_ <;> simp [r1028,badE,bb,c1,oK,gK,nbox]
 ·by_cases c2:n ≤ a
  ·simp [s0,s1,oK,gK,nbox,ec,c1,c2]
   refine EndU_one ?_ ?_ ?_ ?_ <;> simp [r1028,badE,bb,c1,c2,oK,gK,nbox]
  ·by_cases c3:b < 0
   ·simp [s0,s1,oK,gK,nbox,ec,c1,c2,c3]
    refine EndU_one ?_ ?_ ?_ ?_ <;> simp [r1028,badE,bb,c1,c2,c3,oK,gK,nbox]
   ·simp [s0,s1,oK,gK,nbox,ec,c1,c2,c3]
    refine EndU_one ?_ ?_ ?_ ?_ <;> simp [r1028,badE,bb,c1,c2,c3,oK,gK,nbox]
theorem zp55 (tn:Nat) (n:Int) (l:List Edge2):Spec Tryz.prog 55 [eds l,.c (.clo 28 [] [(1012002,tn)])] [(1012002,tn,nbox n)] (ib (fstBad n l 0)) [(1012002,tn,nbox n)]:=by
 refine spec_one (base:=1055000) ok1055 rfl fun σ h0 oK gK hr=>?_
 have hl:=real_eds (hr (eds l) (by simp))
 have s0:σ.sl 0=.c (.sl 2 16 (ecs l)):=h0 0
 have s1:σ.sl 1=.c (.clo 28 [] [(1012002,tn)]):=h0 1
 clear h0 hr
 unfold c1055
 simp [s0,s1,-W_block]
 rw [W_block]
 refine W_loop (fun m σ=>∃ i:Nat,i + m=l.length ∧ fstBad n (l.drop i) i=fstBad n l 0 ∧ σ.sl 0=.c (.sl 2 16 (ecs l)) ∧ σ.sl 1=.c (.clo 28 [] [(1012002,tn)]) ∧ σ.sl 7=.c (.v (.int .i64 l.length)) ∧ σ.sl 8=.c (.v (.int .i64 i)) ∧ σ.ob 1012002=some (nbox n) ∧ σ.tg 1012002=tn) l.length ⟨0,by simp [s0,s1,oK,gK]⟩ ?_
 clear s0 s1 oK gK σ
 rintro m σ ⟨i,hm,hp,s0,s1,s7,s8,oK,gK⟩
 unfold c1055b0
 by_cases hi:i < l.length
 ·have w1:=wrap_succ (i:=i) (by omega)
  obtain ⟨p,hp1⟩:=at_of hi
  obtain ⟨_,hp2⟩:=getE hp1
  rw [drop_at hp1,fstBad] at hp
  simp [s0,s1,s7,s8,oK,gK,hi,hp2]
  refine ECall.ro (args:=[.agg (ec p)]) [(1012002,tn,nbox n)] (by simpa [refs] using zp28 tn n p) (by simp [toD2,toD1]) (by simp) rfl (Ro.one (by simp [oK]) (by simp [gK]) rfl) fun _=>?_
  cases hb:badE n p with
  | true=>
   rw [hb] at hp
   simp [bb]
   refine EndU_one ?_ ?_ ?_ ?_ <;> simp [r1055,oK,gK,ib,← hp]
  | false=>
   rw [hb] at hp
   simp [bb,w1,s0,s1,s7,s8,oK,gK]
   exact ⟨m - 1,by omega,i + 1,by omega,by simpa using hp,rfl⟩
 ·have:i=l.length:=by omega
  subst this
  simp [fstBad] at hp
  simp [s0,s1,s7,s8,oK,gK]
  refine EndU_one ?_ ?_ ?_ ?_ <;> simp [r1055,oK,gK,ib,← hp]
theorem zp29 (tn:Nat) (n:Int) (l:List Edge2):Spec Tryz.prog 29 [eds l,.c (.clo 28 [] [(1012002,tn)])] [(1012002,tn,nbox n)] (bb (l.any (badE n))) [(1012002,tn,nbox n)]:=by
 refine spec_one (base:=1029000) ok1029 rfl fun σ h0 oK gK hr=>?_
 have s0:σ.sl 0=eds l:=h0 0
 have s1:σ.sl 1=.c (.clo 28 [] [(1012002,tn)]):=h0 1
 clear h0 hr
 unfold c1029
 simp [s0,s1,eds]
 refine ECall.ro (rs:=[]) (args:=[eds l,.c (.clo 28 [] [(1012002,tn)])]) [(1012002,tn,nbox n)] (by simpa [refs] using zp55 tn n l) (by simp [toD2,toD1,eds,toD]) (by simp) rfl (Ro.one (by simp [oK]) (by simp [gK]) rfl) fun _=>?_
 simp [ib]
 refine EndU_one ?_ ?_ ?_ ?_ <;> simp [r1029,oK,gK,bb,← fstBad_any n l 0]
end Go.Abs

namespace Go.Abs
open Go.Proofs Go.Proofs.YtfgjannlepahgaaGreat Go.RowKit
theorem und22:Tryz.prog.underlying 22=some (.slice 28):=by kernel_rfl
theorem und28:Tryz.prog.underlying 28=some (.array 2 3):=by kernel_rfl
theorem cell28:Tryz.prog.cellsOf 28=2:=by kernel_rfl
theorem two_l {α:Type}:∀ {l:List α},l.length=2 → ∃ a b,l=[a,b]
 | [a,b],_=>⟨a,b,rfl⟩
set_option maxRecDepth 100000 in
theorem slice_ok22 {w:World} {base:Nat} {v:Value} (h:Value.okWide Tryz.prog w .any base 22 v):∃ a n c,v=.slice a n c:=Go.WideShapes.okWide_slice und22 h
theorem arg_edges {H:Type} {enc:TypeId × Value → H} {w:World} {v:Value} {d:DataW H} {ps:List MemPlace} (h:DataW.Trod enc Tryz.prog w 0 (fun _=>true) true 22 v d ps) (hv:∃ a n c,v=.slice a n c) (hb:Rows.uptoBulk d ≤ 1048576) :
  ∃ l:List Edge2,RV2 (gOf w) w (eds l) v ∧ l.length ≤ 1048576:=by
 obtain ⟨fuel,h⟩:=h
 obtain ⟨a0,n0,c0,rfl⟩:=hv
 rcases Go.Deep.open_slice und22 h with ⟨e,_⟩ | ⟨a,len,cap,mm,nn,D,Pl,e,_,hl,_,hm,hd,hel⟩
 ·have e':[Value.slice a0 n0 c0]=[.slice none 0 0]:=e
  cases e'
  exact ⟨[],fun _=>(nil_spec (gOf w) w 2 16).1,by simp⟩
 ·have e':[Value.slice a0 n0 c0]=[.slice (some a) len cap]:=e
  cases e'
  simp only [if_true] at hm
  subst hm
  cases hd
  simp only [Rows.uptoBulk] at hb
  have hlen2:n0 ≤ 1048576:=by
   have:=bulk_all_len ((List.range n0).map D)
   simp at this
   omega
  have hk:∀ i,∃ m:Edge2,i < n0 → w.cell? (a.add (i * 2))=some (.int .i64 m.1) ∧ w.cell? (a.add (i * 2 + 1))=some (.int .i64 m.2):=fun i=>by
   by_cases hi:i < n0
   ·obtain ⟨us,hu1,hu2⟩:=hel i (by omega)
    rw [cell28] at hu1
    obtain ⟨xs,m',_,_,hul,hxl,hx⟩:=DataW.trod_array und28 hu2
    rw [cell28] at hul
    obtain ⟨v0,v1,rfl⟩:=two_l hul
    obtain ⟨x0,x1,rfl⟩:=two_l hxl
    have g0:=hx 0 (by omega)
    have g1:=hx 1 (by omega)
    simp only [cell3] at g0 g1
    have g0:DataW.trod enc Tryz.prog w 0 (fun _=>true) true m' 3 [v0]=some x0:=g0
    have g1:DataW.trod enc Tryz.prog w 0 (fun _=>true) true m' 3 [v1]=some x1:=g1
    obtain ⟨y0,e0,_,_⟩:=DataW.trod_int Tryz.underlying3 g0
    obtain ⟨y1,e1,_,_⟩:=DataW.trod_int Tryz.underlying3 g1
    cases e0;cases e1
    unfold World.cells? at hu1
    rw [if_pos (Nat.zero_le _)] at hu1
    have h0:=mapM_some_get hu1 0 0 (by simp)
    have h1:=mapM_some_get hu1 1 1 (by simp)
    rw [Addr.add_add] at h0 h1
    exact ⟨(y0,y1),fun _=>⟨by simpa using h0,by simpa using h1⟩⟩
   ·exact ⟨(0,0),fun h=>absurd h hi⟩
  refine ⟨(List.range n0).map fun i=>Classical.choose (hk i),?_,by simpa using hlen2⟩
  intro _
  have key:RD (gOf w) w (.sl 2 16 (((List.range n0).map fun i=>Classical.choose (hk i)).map ec)) (.slice (some a) (((List.range n0).map fun i=>Classical.choose (hk i)).map ec).length mm):=by
   have hes:∀ (i j:Nat) l d,(((List.range n0).map fun i=>Classical.choose (hk i)).map ec)[i]? = some l → l[j]? = some d → i < n0 ∧ ((j=0 ∧ d=.v (.int .i64 (Classical.choose (hk i)).1)) ∨ (j=1 ∧ d=.v (.int .i64 (Classical.choose (hk i)).2))):=fun i j l d e1 e2=>by
    simp only [List.getElem?_map,Option.map_eq_some_iff,List.getElem?_eq_some_iff] at e1
    obtain ⟨t,⟨i',⟨hi',e3⟩,rfl⟩,rfl⟩:=e1
    simp at e3 hi'
    subst e3
    match j,e2 with
    | 0,e2=>simp [ec] at e2;exact ⟨hi',.inl ⟨rfl,e2.symm⟩⟩
    | 1,e2=>simp [ec] at e2;exact ⟨hi',.inr ⟨rfl,e2.symm⟩⟩
    | j + 2,e2=>simp [ec] at e2
   refine .sl 2 16 _ (some a) mm (fun i j=>if j=0 then .int .i64 (Classical.choose (hk i)).1 else .int .i64 (Classical.choose (hk i)).2) (by simpa using hl) (by simp [room];omega) (fun l hl=>?_) (fun i j l d e1 e2=>?_) (fun i j l d e1 e2=>?_)
   ·obtain ⟨t,_,rfl⟩:=List.mem_map.1 hl;rfl
   ·obtain ⟨hi,⟨rfl,rfl⟩ | ⟨rfl,rfl⟩⟩:=hes i j l d e1 e2
    ·have:=(Classical.choose_spec (hk i) hi).1
     have hlt:=cell_lt this
     exact ⟨_,rfl,by simpa [gOf] using hlt,by simpa using this⟩
    ·have:=(Classical.choose_spec (hk i) hi).2
     have hlt:=cell_lt this
     exact ⟨_,rfl,by simpa [gOf] using hlt,by simpa using this⟩
   ·obtain ⟨hi,⟨rfl,rfl⟩ | ⟨rfl,rfl⟩⟩:=hes i j l d e1 e2
    ·exact .v _ rfl
    ·exact .v _ rfl
  have key2:RC (gOf w) w (.sl 2 16 (((List.range n0).map fun i=>Classical.choose (hk i)).map ec)) (.slice (some a) (((List.range n0).map fun i=>Classical.choose (hk i)).map ec).length mm):=key
  simpa [ecs] using key2
end Go.Abs

namespace Go.Abs
def c17b0:SCode:=
 .seq (.seq (.reg [m_ 8 4,m_ 9 0,o_ 10 (.len 61 (.t 9)),o_ 11 (.bin .lss (.t 8) (.t 10))]) (.cond (.t 11) (.skip) (.exit 0))) (.seq (.block 1 (.seq (.seq (.reg [m_ 14 0,m_ 15 4,o_ 16 (.iad 63 3 (.t 14) (.t 15)),o_ 17 (.ldn 63 3 (.t 16)),o_ 18 (.call (.f 58) [.t 17]),o_ 19 (.bin .gtr (.t 18) (.k (.int .i64 300)))]) (.cond (.t 19) (.seq (.reg [o_ 2 (.mv (.k (.bool true)))]) (.ret)) (.skip))) (.reg [m_ 20 3,m_ 21 0,m_ 22 4,o_ 23 (.iad 63 3 (.t 21) (.t 22)),o_ 24 (.ldn 63 3 (.t 23)),o_ 25 (.call (.f 37) [.t 24]),o_ 26 (.bin .add (.t 20) (.t 25)),m_ 3 26]))) (.reg [m_ 12 4,o_ 13 (.bin .add (.t 12) (.k (.int .i64 1))),m_ 4 13]))
def c17:SCode:=
 .seq (.reg [o_ 2 (.mv (.k (.bool false)))]) (.seq (.seq (.reg [m_ 5 0,o_ 6 (.len 61 (.t 5)),o_ 7 (.bin .gtr (.t 6) (.k (.int .i64 60)))]) (.cond (.t 7) (.seq (.reg [o_ 2 (.mv (.k (.bool true)))]) (.ret)) (.skip))) (.seq (.reg [o_ 3 (.mv (.k (.int .i64 0)))]) (.seq (.seq (.reg [o_ 4 (.mv (.k (.int .i64 0)))]) (.block 0 (.loop c17b0))) (.seq (.reg [m_ 27 3,o_ 28 (.bin .gtr (.t 27) (.k (.int .i64 9000))),m_ 2 28]) (.ret)))))
def r17:List RR:=[.t 2]
theorem ok17:okFn Go.Proofs.Tryz.prog 35 29 c17 r17 1=true:=by kernel_rfl
def c18:SCode:=
 .seq (.reg [o_ 2 (.box 63 (.t 0)),o_ 3 (.box 63 (.t 1)),o_ 4 (.mv (.k (.bool false)))]) (.seq (.reg [o_ 5 (.fad 63 0 0 (.t 2)),o_ 6 (.ld1 3 (.t 5)),o_ 7 (.fad 63 0 0 (.t 3)),o_ 8 (.ld1 3 (.t 7)),o_ 9 (.bin .eql (.t 6) (.t 8)),m_ 10 9,p_ 11 10 (.fad 63 1 1 (.t 2)),p_ 12 10 (.ld1 3 (.t 11)),p_ 13 10 (.fad 63 1 1 (.t 3)),p_ 14 10 (.ld1 3 (.t 13)),p_ 15 10 (.bin .eql (.t 12) (.t 14)),o_ 16 (.pick (.t 10) (.t 15) (.k (.bool false))),m_ 17 16,p_ 18 17 (.fad 63 2 2 (.t 2)),p_ 19 17 (.ld1 61 (.t 18)),p_ 20 17 (.fad 63 2 2 (.t 3)),p_ 21 17 (.ld1 61 (.t 20)),p_ 22 17 (.call (.f 120) [.t 19,.t 21,.f 88]),o_ 23 (.pick (.t 17) (.t 22) (.k (.bool false))),m_ 4 23]) (.ret))
def r18:List RR:=[.t 4]
theorem ok18:okFn Go.Proofs.Tryz.prog 88 24 c18 r18 2=true:=by kernel_rfl
def c19:SCode:=
 .seq (.reg [o_ 1 (.box 63 (.t 0)),o_ 2 (.alloc 63 [.v (.int .i64 0),.v (.int .i64 0),.cap 3 40 []])]) (.seq (.dreg [0,1,0,4,0,16,48,127,255] [o_ 3 (.fad 63 0 0 (.t 1)),o_ 4 (.ld1 3 (.t 3)),o_ 5 (.fad 63 1 1 (.t 1)),o_ 6 (.ld1 3 (.t 5)),o_ 7 (.fad 63 2 2 (.t 1)),o_ 8 (.ld1 61 (.t 7)),o_ 9 (.call (.f 65) [.t 8]),o_ 10 (.build 63 [.v (.int .i64 0),.v (.int .i64 0),.cap 3 40 []] [(0,0,1,.t 4),(1,1,1,.t 6),(2,2,1,.t 9)]),n_ (.stn 63 3 (.t 2) (.t 10))]) (.ret))
def r19:List RR:=[.cn 2 3]
theorem ok19:okFn Go.Proofs.Tryz.prog 44 11 c19 r19 1=true:=by kernel_rfl
def c20b0:SCode:=
 .seq (.reg [o_ 10 (.bin .lss (.t 9) (.t 8))]) (.seq (.cond (.t 10) (.skip) (.exit 0)) (.seq (.block 1 (.seq (.reg [o_ 11 (.iad 63 3 (.t 7) (.t 9)),o_ 12 (.ldn 63 3 (.t 11)),o_ 5 (.alloc 63 [.v (.int .i64 0),.v (.int .i64 0),.cap 3 40 []]),n_ (.stn 63 3 (.t 5) (.t 12))]) (.reg [m_ 13 3,o_ 14 (.ldn 63 3 (.t 5)),o_ 15 (.call (.f 151) [.t 14]),o_ 16 (.bin .add (.t 13) (.t 15)),m_ 3 16]))) (.reg [o_ 17 (.bin .add (.t 9) (.k (.int .i64 1))),m_ 9 17])))
def c20:SCode:=
 .seq (.reg [o_ 1 (.box 63 (.t 0)),o_ 2 (.mv (.k (.int .i64 0)))]) (.seq (.reg [o_ 3 (.mv (.k (.int .i64 1)))]) (.seq (.seq (.reg [o_ 6 (.fad 63 2 2 (.t 1)),o_ 7 (.ld1 61 (.t 6)),o_ 8 (.len 61 (.t 7)),o_ 9 (.mv (.k (.int .i64 0)))]) (.block 0 (.loop c20b0))) (.seq (.reg [m_ 18 3,m_ 2 18]) (.ret))))
def r20:List RR:=[.t 2]
theorem ok20:okFn Go.Proofs.Tryz.prog 151 19 c20 r20 1=true:=by kernel_rfl
def c21b0:SCode:=
 .seq (.reg [o_ 10 (.bin .lss (.t 9) (.t 8))]) (.seq (.cond (.t 10) (.skip) (.exit 0)) (.seq (.block 1 (.seq (.reg [o_ 11 (.iad 63 3 (.t 7) (.t 9)),o_ 12 (.ldn 63 3 (.t 11)),o_ 5 (.alloc 63 [.v (.int .i64 0),.v (.int .i64 0),.cap 3 40 []]),n_ (.stn 63 3 (.t 5) (.t 12))]) (.reg [m_ 13 3,o_ 14 (.ldn 63 3 (.t 5)),o_ 15 (.call (.f 152) [.t 14]),o_ 16 (.best true [.t 13,.t 15]),m_ 3 16]))) (.reg [o_ 17 (.bin .add (.t 9) (.k (.int .i64 1))),m_ 9 17])))
def c21:SCode:=
 .seq (.reg [o_ 1 (.box 63 (.t 0)),o_ 2 (.mv (.k (.int .i64 0)))]) (.seq (.reg [o_ 3 (.mv (.k (.int .i64 0)))]) (.seq (.seq (.reg [o_ 6 (.fad 63 2 2 (.t 1)),o_ 7 (.ld1 61 (.t 6)),o_ 8 (.len 61 (.t 7)),o_ 9 (.mv (.k (.int .i64 0)))]) (.block 0 (.loop c21b0))) (.seq (.reg [m_ 18 3,o_ 19 (.bin .add (.t 18) (.k (.int .i64 1))),m_ 2 19]) (.ret))))
def r21:List RR:=[.t 2]
theorem ok21:okFn Go.Proofs.Tryz.prog 152 20 c21 r21 1=true:=by kernel_rfl
def c28b0:SCode:=
 .seq (.seq (.reg [m_ 5 4,o_ 6 (.fad 63 2 2 (.t 1)),o_ 7 (.ld1 61 (.t 6)),o_ 8 (.len 61 (.t 7)),o_ 9 (.bin .lss (.t 5) (.t 8))]) (.cond (.t 9) (.skip) (.exit 0))) (.seq (.block 1 (.reg [m_ 12 3,o_ 13 (.fad 63 2 2 (.t 1)),o_ 14 (.ld1 61 (.t 13)),m_ 15 4,o_ 16 (.iad 63 3 (.t 14) (.t 15)),o_ 17 (.ldn 63 3 (.t 16)),o_ 18 (.call (.f 37) [.t 17]),o_ 19 (.bin .add (.t 12) (.t 18)),m_ 3 19])) (.reg [m_ 10 4,o_ 11 (.bin .add (.t 10) (.k (.int .i64 1))),m_ 4 11]))
def c28:SCode:=
 .seq (.reg [o_ 1 (.box 63 (.t 0)),o_ 2 (.mv (.k (.int .i64 0)))]) (.seq (.reg [o_ 3 (.mv (.k (.int .i64 1)))]) (.seq (.seq (.reg [o_ 4 (.mv (.k (.int .i64 0)))]) (.block 0 (.loop c28b0))) (.seq (.reg [m_ 20 3,m_ 2 20]) (.ret))))
def r28:List RR:=[.t 2]
theorem ok28:okFn Go.Proofs.Tryz.prog 37 21 c28 r28 1=true:=by kernel_rfl
def c29b0:SCode:=
 .seq (.seq (.reg [m_ 5 4,o_ 6 (.fad 63 2 2 (.t 1)),o_ 7 (.ld1 61 (.t 6)),o_ 8 (.len 61 (.t 7)),o_ 9 (.bin .lss (.t 5) (.t 8))]) (.cond (.t 9) (.skip) (.exit 0))) (.seq (.block 1 (.reg [m_ 12 3,o_ 13 (.fad 63 2 2 (.t 1)),o_ 14 (.ld1 61 (.t 13)),m_ 15 4,o_ 16 (.iad 63 3 (.t 14) (.t 15)),o_ 17 (.ldn 63 3 (.t 16)),o_ 18 (.call (.f 58) [.t 17]),o_ 19 (.best true [.t 12,.t 18]),m_ 3 19])) (.reg [m_ 10 4,o_ 11 (.bin .add (.t 10) (.k (.int .i64 1))),m_ 4 11]))
def c29:SCode:=
 .seq (.reg [o_ 1 (.box 63 (.t 0)),o_ 2 (.mv (.k (.int .i64 0)))]) (.seq (.reg [o_ 3 (.mv (.k (.int .i64 0)))]) (.seq (.seq (.reg [o_ 4 (.mv (.k (.int .i64 0)))]) (.block 0 (.loop c29b0))) (.seq (.reg [m_ 20 3,o_ 21 (.bin .add (.t 20) (.k (.int .i64 1))),m_ 2 21]) (.ret))))
def r29:List RR:=[.t 2]
theorem ok29:okFn Go.Proofs.Tryz.prog 58 22 c29 r29 1=true:=by kernel_rfl
def c63b0:SCode:=
 .seq (.reg [o_ 18 (.bin .lss (.t 17) (.t 16))]) (.seq (.cond (.t 18) (.skip) (.exit 0)) (.seq (.block 1 (.seq (.reg [m_ 19 17,o_ 20 (.iad 63 3 (.t 15) (.t 17)),o_ 21 (.ldn 63 3 (.t 20)),o_ 8 (.alloc 63 [.v (.int .i64 0),.v (.int .i64 0),.cap 3 40 []]),m_ 7 19,n_ (.stn 63 3 (.t 8) (.t 21))]) (.seq (.reg [m_ 22 1,m_ 23 7,o_ 24 (.iad 63 3 (.t 22) (.t 23)),o_ 25 (.ldn 63 3 (.t 24)),o_ 9 (.alloc 63 [.v (.int .i64 0),.v (.int .i64 0),.cap 3 40 []]),n_ (.stn 63 3 (.t 9) (.t 25))]) (.seq (.reg [m_ 26 2,o_ 27 (.ldn 63 3 (.t 8)),o_ 28 (.ldn 63 3 (.t 9)),o_ 29 (.call (.t 26) [.t 27,.t 28]),o_ 30 (.not (.t 29))]) (.cond (.t 30) (.seq (.reg [o_ 6 (.mv (.k (.bool false)))]) (.ret)) (.skip)))))) (.reg [o_ 31 (.bin .add (.t 17) (.k (.int .i64 1))),m_ 17 31])))
def c63:SCode:=
 .seq (.reg [o_ 6 (.mv (.k (.bool false)))]) (.seq (.seq (.reg [m_ 10 0,o_ 11 (.len 61 (.t 10)),m_ 12 1,o_ 13 (.len 61 (.t 12)),o_ 14 (.bin .neq (.t 11) (.t 13))]) (.cond (.t 14) (.seq (.reg [o_ 6 (.mv (.k (.bool false)))]) (.ret)) (.skip))) (.seq (.seq (.reg [m_ 15 0,o_ 16 (.len 61 (.t 15)),o_ 17 (.mv (.k (.int .i64 0)))]) (.block 0 (.loop c63b0))) (.seq (.reg [o_ 6 (.mv (.k (.bool true)))]) (.ret))))
def r63:List RR:=[.t 6]
theorem ok63:okFn Go.Proofs.Tryz.prog 120 32 c63 r63 3=true:=by kernel_rfl
def c64b0:SCode:=
 .seq (.seq (.reg [m_ 5 4,m_ 6 0,o_ 7 (.len 61 (.t 6)),o_ 8 (.bin .lss (.t 5) (.t 7))]) (.cond (.t 8) (.skip) (.exit 0))) (.seq (.block 1 (.reg [m_ 11 3,m_ 12 0,m_ 13 4,o_ 14 (.iad 63 3 (.t 12) (.t 13)),o_ 15 (.ldn 63 3 (.t 14)),o_ 16 (.call (.f 44) [.t 15]),o_ 17 (.lit 63 3 40 [.t 16]),o_ 18 (.app 63 3 40 (.t 11) (.t 17)),m_ 3 18])) (.reg [m_ 9 4,o_ 10 (.bin .add (.t 9) (.k (.int .i64 1))),m_ 4 10]))
def c64:SCode:=
 .seq (.reg [o_ 2 (.mv (.nil 3 40))]) (.seq (.reg [o_ 3 (.mv (.nil 3 40))]) (.seq (.seq (.reg [o_ 4 (.mv (.k (.int .i64 0)))]) (.block 0 (.loop c64b0))) (.seq (.reg [m_ 19 3,m_ 2 19]) (.ret))))
def r64:List RR:=[.t 2]
theorem ok64:okFn Go.Proofs.Tryz.prog 65 20 c64 r64 1=true:=by kernel_rfl
end Go.Abs

namespace Go.Abs
open Go.Proofs
def all2 {α:Type} (p:α → α → Bool):List α → List α → Bool
 | [],[]=>true
 | t :: ts,u :: us=>p t u && all2 p ts us
 | _,_=>false
theorem all2_len {α:Type} {p:α → α → Bool}:∀ {ts us:List α},ts.length ≠ us.length → all2 p ts us=false
 | [],[],h=>absurd rfl h
 | t :: ts,u :: us,h=>by simp [all2,all2_len (p:=p) (ts:=ts) (us:=us) (by simpa using h)]
 | [],_ :: _,_=>rfl
 | _ :: _,[],_=>rfl
theorem all2_at {α:Type} {p:α → α → Bool}:∀ {ts us:List α} {i:Nat} {t u:α},ts.length=us.length → ts[i]? = some t → us[i]? = some u → (all2 p (ts.drop i) (us.drop i)=(p t u && all2 p (ts.drop (i + 1)) (us.drop (i + 1))))
 | t :: ts,u :: us,0,t',u',_,h1,h2=>by simp at h1 h2;subst h1;subst h2;simp [all2]
 | t :: ts,u :: us,i + 1,t',u',hl,h1,h2=>by simpa using all2_at (p:=p) (by simpa using hl) (by simpa using h1) (by simpa using h2)
 | [],_,_,_,_,_,h1,_=>by simp at h1
 | _ :: _,[],_,_,_,_,_,h2=>by simp at h2
theorem fn63 {f:Nat} {p:T → T → Bool} {ts us:List T} (hf:∀ t,t ∈ ts → ∀ u,Fn Tryz.prog f [tm t,tm u] (bb (p t u))):Fn Tryz.prog 120 [tms ts,tms us,.c (.clo f [] [])] (bb (all2 p ts us)):=by
 refine fn_of (base:=63000) ok63 rfl fun σ h0 hr=>?_
 have s0:=h0 0
 have s1:=h0 1
 have s2:=h0 2
 rw [slots0] at s0
 rw [slots1] at s1
 rw [slots2] at s2
 have hlen:=real_tms (hr (tms ts) (by simp))
 clear h0 hr
 unfold c63
 by_cases hl:ts.length=us.length
 case neg=>
  have hl':¬ ((ts.length:Int)=(us.length:Int)):=by omega
  simp [s0,s1,s2,tms,hl',r63,bb,all2_len hl]
 case pos=>
  simp [s0,s1,s2,tms,hl]
  refine W_loop (fun k σ=>∃ i:Nat,i + k=ts.length ∧ all2 p (ts.drop i) (us.drop i)=all2 p ts us ∧ σ.sl 0=tms ts ∧ σ.sl 1=tms us ∧ σ.sl 2=.c (.clo f [] []) ∧ σ.sl 15=tms ts ∧ σ.sl 16=ib ts.length ∧ σ.sl 17=ib i) ts.length ?_ ?_
  ·exact ⟨0,by simp [s0,s1,s2,tms,ib,hl]⟩
  ·rintro k σ ⟨i,hk,hp,q0,q1,q2,q15,q16,q17⟩
   unfold c63b0
   simp only [tms,ib] at q0 q1 q2 q15 q16 q17
   by_cases hi:i < ts.length
   ·obtain ⟨t,ht⟩:∃ t,ts[i]? = some t:=⟨ts[i],by simp [hi]⟩
    obtain ⟨u,hu⟩:∃ u,us[i]? = some u:=⟨us[i]'(by omega),by simp [show i < us.length by omega]⟩
    have hi2:i < us.length:=by omega
    have w1:IntKind.wrap .i64 ((i:Int) + 1)=((i + 1:Nat):Int):=by rw [wrap_id (by omega) (by omega)];rfl
    simp [q0,q1,q2,q15,q16,q17,hi,hi2,ht,hu]
    refine ECall.fn (hf t (List.mem_of_getElem? ht) u) (by simp [tm,(List.getElem?_eq_some_iff.1 ht).2,(List.getElem?_eq_some_iff.1 hu).2]) (by simp) rfl fun _=>?_
    simp [bb]
    rw [all2_at hl ht hu] at hp
    constructor
    ·intro hpf
     simp [r63,← hp,hpf]
    ·intro hpt
     simp [q17,w1]
     refine ⟨k - 1,by omega,i + 1,by omega,?_,?_⟩
     ·rw [← hp,hpt];simp
     ·simp [q0,q1,q2,q15,q16,tms,ib,w1]
   ·simp [q0,q1,q2,q15,q16,q17,hi,r63,bb]
    have:ts.length ≤ i:=by omega
    rw [← hp,List.drop_eq_nil_of_le this,List.drop_eq_nil_of_le (by omega)];rfl
mutual
def T.eqb:T → T → Bool
 | .mk k n ts,.mk k' n' us=>decide (k=k') && decide (n=n') && T.eqbL ts us
def T.eqbL:List T → List T → Bool
 | [],[]=>true
 | t :: ts,u :: us=>T.eqb t u && T.eqbL ts us
 | _,_=>false
end
theorem eqbL_all2:∀ {ts us:List T},T.eqbL ts us=all2 T.eqb ts us
 | [],[]=>by simp [T.eqbL,all2]
 | t :: ts,u :: us=>by simp [T.eqbL,all2,eqbL_all2 (ts:=ts)]
 | [],_ :: _=>by simp [T.eqbL,all2]
 | _ :: _,[]=>by simp [T.eqbL,all2]
theorem fn18 (t u:T):Fn Tryz.prog 88 [tm t,tm u] (bb (T.eqb t u)):=by
 induction t using T.ind generalizing u with
 | h k n ts ih=>
 obtain ⟨k',n',us⟩:=u
 have h63:Fn Tryz.prog 120 [tms ts,tms us,.c (.clo 88 [] [])] (bb (all2 T.eqb ts us)):=fn63 fun t ht u=>ih t ht u
 refine fn_of (base:=18000) ok18 rfl fun σ h0 hr=>?_
 have s0:=h0 0
 have s1:=h0 1
 rw [slots0] at s0
 rw [slots1] at s1
 simp only [tm,cells_mk] at s0 s1
 clear h0 hr
 unfold c18
 simp [s0,s1]
 refine GCall.fn (fun _=>h63) (by simp [tms]) (by simp) rfl fun _=>?_
 simp [r18,bb,T.eqb,eqbL_all2]
end Go.Abs

namespace Go.Abs
def c45:SCode:=
 .seq (.reg [o_ 2 (.box 63 (.t 0)),o_ 3 (.box 63 (.t 1)),o_ 4 (.mv (.k (.bool false)))]) (.seq (.reg [o_ 5 (.fad 63 0 0 (.t 2)),o_ 6 (.ld1 3 (.t 5)),o_ 7 (.fad 63 0 0 (.t 3)),o_ 8 (.ld1 3 (.t 7)),o_ 9 (.bin .eql (.t 6) (.t 8)),m_ 10 9,p_ 11 10 (.fad 63 1 1 (.t 2)),p_ 12 10 (.ld1 3 (.t 11)),p_ 13 10 (.fad 63 1 1 (.t 3)),p_ 14 10 (.ld1 3 (.t 13)),p_ 15 10 (.bin .eql (.t 12) (.t 14)),o_ 16 (.pick (.t 10) (.t 15) (.k (.bool false))),m_ 17 16,p_ 18 17 (.fad 63 2 2 (.t 2)),p_ 19 17 (.ld1 61 (.t 18)),p_ 20 17 (.fad 63 2 2 (.t 3)),p_ 21 17 (.ld1 61 (.t 20)),p_ 22 17 (.call (.f 80) [.t 19,.t 21]),o_ 23 (.pick (.t 17) (.t 22) (.k (.bool false))),m_ 4 23]) (.ret))
def r45:List RR:=[.t 4]
theorem ok45:okFn Go.Proofs.Tryz.prog 49 24 c45 r45 2=true:=by kernel_rfl
def c96b0:SCode:=
 .seq (.seq (.reg [m_ 11 5,m_ 12 0,o_ 13 (.len 61 (.t 12)),o_ 14 (.bin .lss (.t 11) (.t 13))]) (.cond (.t 14) (.skip) (.exit 0))) (.seq (.block 1 (.seq (.dreg [0,0,3,7,0,0,48,112,255,511] [m_ 17 0,m_ 18 5,o_ 19 (.iad 63 3 (.t 17) (.t 18)),o_ 20 (.ldn 63 3 (.t 19)),m_ 21 1,m_ 22 5,o_ 23 (.iad 63 3 (.t 21) (.t 22)),o_ 24 (.ldn 63 3 (.t 23)),o_ 25 (.call (.f 49) [.t 20,.t 24]),o_ 26 (.not (.t 25))]) (.cond (.t 26) (.seq (.reg [o_ 4 (.mv (.k (.bool false)))]) (.ret)) (.skip)))) (.reg [m_ 15 5,o_ 16 (.bin .add (.t 15) (.k (.int .i64 1))),m_ 5 16]))
def c96:SCode:=
 .seq (.reg [o_ 4 (.mv (.k (.bool false)))]) (.seq (.seq (.reg [m_ 6 0,o_ 7 (.len 61 (.t 6)),m_ 8 1,o_ 9 (.len 61 (.t 8)),o_ 10 (.bin .neq (.t 7) (.t 9))]) (.cond (.t 10) (.seq (.reg [o_ 4 (.mv (.k (.bool false)))]) (.ret)) (.skip))) (.seq (.seq (.reg [o_ 5 (.mv (.k (.int .i64 0)))]) (.block 0 (.loop c96b0))) (.seq (.reg [o_ 4 (.mv (.k (.bool true)))]) (.ret))))
def r96:List RR:=[.t 4]
theorem ok96:okFn Go.Proofs.Tryz.prog 80 27 c96 r96 2=true:=by kernel_rfl
end Go.Abs

namespace Go.Abs
open Go.Proofs
theorem fn96 {ts us:List T} (hf:∀ t,t ∈ ts → ∀ u,Fn Tryz.prog 49 [tm t,tm u] (bb (T.eqb t u))):Fn Tryz.prog 80 [tms ts,tms us] (bb (T.eqbL ts us)):=by
 rw [eqbL_all2]
 refine fn_of (base:=96000) ok96 rfl fun σ h0 hr=>?_
 have s0:=h0 0
 have s1:=h0 1
 rw [slots0] at s0
 rw [slots1] at s1
 have hlen:=real_tms (hr (tms ts) (by simp))
 simp only [tms] at s0 s1
 clear h0 hr
 unfold c96
 by_cases hl:ts.length=us.length
 case neg=>
  have hl':¬ ((ts.length:Int)=(us.length:Int)):=by omega
  simp [s0,s1,hl',r96,bb,all2_len hl]
 case pos=>
  simp [s0,s1,hl]
  refine W_loop (fun k σ=>∃ i:Nat,i + k=ts.length ∧ all2 T.eqb (ts.drop i) (us.drop i)=all2 T.eqb ts us ∧ σ.sl 0=.c (.sl 3 40 (ts.map T.cells)) ∧ σ.sl 1=.c (.sl 3 40 (us.map T.cells)) ∧ σ.sl 5=.c (.v (.int .i64 i))) ts.length ?_ ?_
  ·exact ⟨0,by simp [s0,s1]⟩
  ·rintro k σ ⟨i,hk,hp,q0,q1,q5⟩
   unfold c96b0
   by_cases hi:i < ts.length
   ·obtain ⟨t,ht⟩:=at_of hi
    obtain ⟨u,hu⟩:=at_of (show i < us.length by omega)
    obtain ⟨_,ht'⟩:=getE ht
    obtain ⟨hi2,hu'⟩:=getE hu
    have w1:=wrap_succ (i:=i) (by omega)
    rw [all2_at hl ht hu] at hp
    simp [q0,q1,q5,hi,hi2]
    refine W_dregA ?_
    simp [q0,q1,q5,hi,hi2,ht',hu']
    refine CallA.fn (hf t (List.mem_of_getElem? ht) u) (by simp [tm]) (by simp) rfl ?_
    simp [bb]
    refine realC_n ?_
    simp
    constructor
    ·intro hpf
     simp [r96,← hp,hpf]
    ·intro hpt
     rw [hpt,Bool.true_and] at hp
     simp [q5]
     refine ⟨k - 1,by omega,i + 1,by omega,hp,?_⟩
     simp [q0,q1,w1]
   ·simp [q0,q1,q5,hi,r96,bb]
    have:ts.length ≤ i:=by omega
    rw [← hp,List.drop_eq_nil_of_le this,List.drop_eq_nil_of_le (by omega)];rfl
theorem fn45 (t u:T):Fn Tryz.prog 49 [tm t,tm u] (bb (T.eqb t u)):=by
 induction t using T.ind generalizing u with
 | h k n ts ih=>
 obtain ⟨k',n',us⟩:=u
 have h96:Fn Tryz.prog 80 [tms ts,tms us] (bb (T.eqbL ts us)):=fn96 fun t ht u=>ih t ht u
 refine fn_of (base:=45000) ok45 rfl fun σ h0 hr=>?_
 have s0:=h0 0
 have s1:=h0 1
 rw [slots0] at s0
 rw [slots1] at s1
 simp only [tm,cells_mk] at s0 s1
 clear h0 hr
 unfold c45
 simp [s0,s1]
 refine GCall.fn (fun _=>h96) (by simp [tms]) (by simp) rfl fun _=>?_
 simp [r45,bb,T.eqb]
end Go.Abs

namespace Go.Abs
def c65:SCode:=
 .seq (.reg [o_ 1 (.box 63 (.t 0)),o_ 2 (.mv (.k (.bool false)))]) (.seq (.reg [o_ 4 (.fad 63 0 0 (.t 1)),o_ 5 (.ld1 3 (.t 4)),o_ 6 (.call (.f 174) [.t 5]),m_ 3 6]) (.seq (.seq (.reg [m_ 7 3,o_ 8 (.bin .lss (.t 7) (.k (.int .i64 0))),m_ 9 8,q_ 10 9 (.fad 63 2 2 (.t 1)),q_ 11 9 (.ld1 61 (.t 10)),q_ 12 9 (.len 61 (.t 11)),qm_ 13 9 3,q_ 14 9 (.bin .neq (.t 12) (.t 13)),o_ 15 (.pick (.t 9) (.k (.bool true)) (.t 14)),m_ 16 15,q_ 17 16 (.fad 63 1 1 (.t 1)),q_ 18 16 (.ld1 3 (.t 17)),q_ 19 16 (.bin .lss (.t 18) (.k (.int .i64 0))),o_ 20 (.pick (.t 16) (.k (.bool true)) (.t 19)),m_ 21 20,q_ 22 21 (.fad 63 1 1 (.t 1)),q_ 23 21 (.ld1 3 (.t 22)),q_ 24 21 (.bin .gtr (.t 23) (.k (.int .i64 65535))),o_ 25 (.pick (.t 21) (.k (.bool true)) (.t 24)),m_ 26 25,qm_ 27 26 3,q_ 28 26 (.bin .gtr (.t 27) (.k (.int .i64 0))),qm_ 29 26 28,p_ 30 29 (.fad 63 1 1 (.t 1)),p_ 31 29 (.ld1 3 (.t 30)),
 p_ 32 29 (.bin .neq (.t 31) (.k (.int .i64 0))),q_ 33 26 (.pick (.t 29) (.t 32) (.k (.bool false))),o_ 34 (.pick (.t 26) (.k (.bool true)) (.t 33))]) (.cond (.t 34) (.seq (.reg [o_ 2 (.mv (.k (.bool false)))]) (.ret)) (.skip))) (.seq (.reg [o_ 35 (.fad 63 2 2 (.t 1)),o_ 36 (.ld1 61 (.t 35)),o_ 37 (.call (.f 175) [.t 36,.f 176]),o_ 38 (.not (.t 37)),m_ 2 38]) (.ret))))
def r65:List RR:=[.t 2]
theorem ok65:okFn Go.Proofs.Tryz.prog 153 39 c65 r65 1=true:=by kernel_rfl
def c113:SCode:=
 .seq (.reg [o_ 1 (.box 63 (.t 0)),o_ 2 (.mv (.k (.bool false)))]) (.seq (.reg [o_ 3 (.ldn 63 3 (.t 1)),o_ 4 (.call (.f 153) [.t 3]),o_ 5 (.not (.t 4)),m_ 2 5]) (.ret))
def r113:List RR:=[.t 2]
theorem ok113:okFn Go.Proofs.Tryz.prog 176 6 c113 r113 1=true:=by kernel_rfl
def c22:SCode:=
 .seq (.reg [o_ 1 (.box 63 (.t 0)),o_ 2 (.mv (.k (.int .i64 0)))]) (.seq (.block 0 (.seq (.reg [o_ 4 (.ldn 63 3 (.t 1)),o_ 5 (.call (.f 151) [.t 4]),o_ 6 (.bin .gtr (.t 5) (.k (.int .i64 6000))),m_ 3 6]) (.cond (.t 3) (.seq (.reg [o_ 2 (.mv (.k (.int .i64 4)))]) (.ret)) (.seq (.reg [o_ 8 (.ldn 63 3 (.t 1)),o_ 9 (.call (.f 152) [.t 8]),o_ 10 (.bin .gtr (.t 9) (.k (.int .i64 200))),m_ 7 10]) (.cond (.t 7) (.seq (.reg [o_ 2 (.mv (.k (.int .i64 5)))]) (.ret)) (.seq (.reg [o_ 12 (.ldn 63 3 (.t 1)),o_ 13 (.call (.f 153) [.t 12]),o_ 14 (.not (.t 13)),m_ 11 14]) (.cond (.t 11) (.seq (.reg [o_ 2 (.mv (.k (.int .i64 1)))]) (.ret)) (.skip)))))))) (.seq (.reg [o_ 2 (.mv (.k (.int .i64 0)))]) (.ret)))
def r22:List RR:=[.t 2]
theorem ok22:okFn Go.Proofs.Tryz.prog 112 15 c22 r22 1=true:=by kernel_rfl
def c24:SCode:=
 .seq (.reg [o_ 2 (.alloc 63 [.v (.int .i64 0),.v (.int .i64 0),.cap 3 40 []])]) (.seq (.reg [m_ 3 0,o_ 4 (.build 63 [.v (.int .i64 0),.v (.int .i64 0),.cap 3 40 []] [(0,0,1,.k (.int .i64 2)),(1,1,1,.t 3)]),n_ (.stn 63 3 (.t 2) (.t 4))]) (.ret))
def r24:List RR:=[.cn 2 3]
theorem ok24:okFn Go.Proofs.Tryz.prog 33 5 c24 r24 1=true:=by kernel_rfl
def c31:SCode:=
 .seq (.reg [o_ 4 (.mv (.k (.int .i64 0)))]) (.seq (.seq (.reg [m_ 5 1,o_ 6 (.bin .eql (.t 5) (.k (.int .i64 1))),m_ 7 6,p_ 8 7 (.lit 3 1 8 [.k (.int .i64 4),.k (.int .i64 5),.k (.int .i64 7)]),pm_ 9 7 0,p_ 10 7 (.call (.f 177) [.t 8,.t 9]),o_ 11 (.pick (.t 7) (.t 10) (.k (.bool false)))]) (.cond (.t 11) (.seq (.reg [o_ 4 (.mv (.k (.int .i64 1)))]) (.ret)) (.skip))) (.seq (.reg [o_ 4 (.mv (.k (.int .i64 0)))]) (.ret)))
def r31:List RR:=[.t 4]
theorem ok31:okFn Go.Proofs.Tryz.prog 154 12 c31 r31 2=true:=by kernel_rfl
def c69:SCode:=
 .seq (.reg [o_ 4 (.mv (.k (.bool false)))]) (.seq (.reg [m_ 5 0,m_ 6 1,o_ 7 (.call (.f 189) [.t 5,.t 6]),o_ 8 (.bin .geq (.t 7) (.k (.int .i64 0))),m_ 4 8]) (.ret))
def r69:List RR:=[.t 4]
theorem ok69:okFn Go.Proofs.Tryz.prog 177 9 c69 r69 2=true:=by kernel_rfl
def c115b0:SCode:=
 .seq (.reg [o_ 9 (.bin .lss (.t 8) (.t 7))]) (.seq (.cond (.t 9) (.skip) (.exit 0)) (.seq (.block 1 (.seq (.reg [m_ 10 8,m_ 5 10]) (.seq (.reg [m_ 11 1,m_ 12 0,m_ 13 5,o_ 14 (.iad 3 1 (.t 12) (.t 13)),o_ 15 (.ld1 3 (.t 14)),o_ 16 (.bin .eql (.t 11) (.t 15))]) (.cond (.t 16) (.seq (.reg [m_ 17 5,m_ 4 17]) (.ret)) (.skip))))) (.reg [o_ 18 (.bin .add (.t 8) (.k (.int .i64 1))),m_ 8 18])))
def c115:SCode:=
 .seq (.reg [o_ 4 (.mv (.k (.int .i64 0)))]) (.seq (.seq (.reg [m_ 6 0,o_ 7 (.len 24 (.t 6)),o_ 8 (.mv (.k (.int .i64 0)))]) (.block 0 (.loop c115b0))) (.seq (.reg [o_ 4 (.mv (.k (.int .i64 (-1))))]) (.ret)))
def r115:List RR:=[.t 4]
theorem ok115:okFn Go.Proofs.Tryz.prog 189 19 c115 r115 2=true:=by kernel_rfl
def c30:SCode:=
 .seq (.reg [o_ 3 (.box 63 (.t 0)),o_ 6 (.mv (.k (.bool false)))]) (.seq (.reg [m_ 7 1,o_ 8 (.bin .geq (.t 7) (.k (.int .i64 0))),m_ 9 8,pm_ 10 9 2,p_ 11 9 (.bin .geq (.t 10) (.k (.int .i64 0))),o_ 12 (.pick (.t 9) (.t 11) (.k (.bool false))),m_ 13 12,p_ 14 13 (.ldn 63 3 (.t 3)),p_ 15 13 (.call (.f 112) [.t 14]),p_ 16 13 (.bin .eql (.t 15) (.k (.int .i64 0))),o_ 17 (.pick (.t 13) (.t 16) (.k (.bool false))),m_ 18 17,p_ 19 18 (.ldn 63 3 (.t 3)),pm_ 20 18 1,p_ 21 18 (.best false [.t 20,.k (.int .i64 65536)]),pm_ 22 18 2,p_ 23 18 (.call (.f 113) [.t 19,.t 21,.t 22]),o_ 24 (.pick (.t 18) (.t 23) (.k (.bool false))),m_ 6 24]) (.ret))
def r30:List RR:=[.t 6]
theorem ok30:okFn Go.Proofs.Tryz.prog 81 25 c30 r30 3=true:=by kernel_rfl
def c68b0:SCode:=
 .seq (.reg [o_ 32 (.bin .lss (.t 31) (.t 30))]) (.seq (.cond (.t 32) (.skip) (.exit 1)) (.seq (.block 2 (.seq (.reg [m_ 33 31,o_ 34 (.iad 63 3 (.t 29) (.t 31)),o_ 35 (.ldn 63 3 (.t 34)),o_ 8 (.alloc 63 [.v (.int .i64 0),.v (.int .i64 0),.cap 3 40 []]),m_ 7 33,n_ (.stn 63 3 (.t 8) (.t 35))]) (.seq (.dreg [0,0,0,4,0,28,62,0,255,511] [o_ 36 (.ldn 63 3 (.t 8)),m_ 37 1,o_ 38 (.fad 63 0 0 (.t 3)),o_ 39 (.ld1 3 (.t 38)),m_ 40 7,o_ 41 (.call (.f 154) [.t 39,.t 40]),o_ 42 (.bin .add (.t 37) (.t 41)),m_ 43 2,o_ 44 (.call (.f 113) [.t 36,.t 42,.t 43]),o_ 45 (.not (.t 44))]) (.cond (.t 45) (.seq (.reg [o_ 6 (.mv (.k (.bool false)))]) (.ret)) (.skip))))) (.reg [o_ 46 (.bin .add (.t 31) (.k (.int .i64 1))),m_ 31 46])))
def c68:SCode:=
 .seq (.reg [o_ 3 (.box 63 (.t 0)),o_ 6 (.mv (.k (.bool false)))]) (.seq (.seq (.reg [o_ 9 (.fad 63 0 0 (.t 3)),o_ 10 (.ld1 3 (.t 9))]) (.block 0 (.seq (.reg [o_ 12 (.bin .eql (.t 10) (.k (.int .i64 1))),m_ 11 12]) (.cond (.t 11) (.seq (.reg [o_ 13 (.fad 63 1 1 (.t 3)),o_ 14 (.ld1 3 (.t 13)),m_ 15 1,o_ 16 (.bin .lss (.t 14) (.t 15)),m_ 6 16]) (.ret)) (.seq (.reg [o_ 18 (.bin .eql (.t 10) (.k (.int .i64 2))),m_ 17 18]) (.cond (.t 17) (.seq (.reg [o_ 19 (.fad 63 1 1 (.t 3)),o_ 20 (.ld1 3 (.t 19)),o_ 21 (.bin .leq (.t 20) (.k (.int .i64 6))),m_ 6 21]) (.ret)) (.seq (.reg [o_ 23 (.bin .eql (.t 10) (.k (.int .i64 3))),m_ 22 23]) (.cond (.t 22) (.seq (.reg [o_ 24 (.fad 63 1 1 (.t 3)),o_ 25 (.ld1 3 (.t 24)),m_ 26 2,o_ 27 (.bin .lss (.t 25) (.t 26)),m_ 6 27]) (.ret)) (.skip))))))))) (.seq (.seq (.reg [o_ 28 (.fad 63 2 2 (.t 3)),o_ 29 (.ld1 61 (.t 28)),o_ 30 (.len 61 (.t 29)),
 o_ 31 (.mv (.k (.int .i64 0)))]) (.block 1 (.loop c68b0))) (.seq (.reg [o_ 6 (.mv (.k (.bool true)))]) (.ret))))
def r68:List RR:=[.t 6]
theorem ok68:okFn Go.Proofs.Tryz.prog 113 47 c68 r68 3=true:=by kernel_rfl
end Go.Abs

namespace Go.Abs
def c111:SCode:=
 .seq (.reg [o_ 2 (.mv (.k (.bool false)))]) (.seq (.reg [m_ 3 0,o_ 4 (.bin .geq (.t 3) (.k (.int .i64 1))),m_ 5 4,pm_ 6 5 0,p_ 7 5 (.bin .leq (.t 6) (.k (.int .i64 13))),o_ 8 (.pick (.t 5) (.t 7) (.k (.bool false))),m_ 2 8]) (.ret))
def r111:List RR:=[.t 2]
theorem ok111:okFn Go.Proofs.Tryz.prog 187 9 c111 r111 1=true:=by kernel_rfl
def c62:SCode:=
 .seq (.reg [o_ 2 (.mv (.k (.int .i64 0)))]) (.seq (.seq (.reg [m_ 3 0]) (.block 0 (.seq (.seq (.reg [o_ 5 (.bin .eql (.t 3) (.k (.int .i64 1))),m_ 4 5]) (.cond (.t 4) (.skip) (.seq (.reg [o_ 6 (.bin .eql (.t 3) (.k (.int .i64 2))),m_ 4 6]) (.cond (.t 4) (.skip) (.reg [o_ 7 (.bin .eql (.t 3) (.k (.int .i64 3))),m_ 4 7]))))) (.cond (.t 4) (.seq (.reg [o_ 2 (.mv (.k (.int .i64 0)))]) (.ret)) (.seq (.seq (.reg [o_ 9 (.bin .eql (.t 3) (.k (.int .i64 9))),m_ 8 9]) (.cond (.t 8) (.skip) (.reg [o_ 10 (.bin .eql (.t 3) (.k (.int .i64 10))),m_ 8 10]))) (.cond (.t 8) (.seq (.reg [o_ 2 (.mv (.k (.int .i64 1)))]) (.ret)) (.seq (.seq (.reg [o_ 12 (.bin .eql (.t 3) (.k (.int .i64 8))),m_ 11 12]) (.cond (.t 11) (.skip) (.seq (.reg [o_ 13 (.bin .eql (.t 3) (.k (.int .i64 11))),m_ 11 13]) (.cond (.t 11) (.skip) (.reg [o_ 14 (.bin .eql (.t 3) (.k (.int .i64 13))),m_ 11 14]))))) (.cond (.t 11) (.seq (.reg
 [o_ 2 (.mv (.k (.int .i64 3)))]) (.ret)) (.skip))))))))) (.seq (.seq (.reg [m_ 15 0,o_ 16 (.call (.f 187) [.t 15])]) (.cond (.t 16) (.seq (.reg [o_ 2 (.mv (.k (.int .i64 2)))]) (.ret)) (.skip))) (.seq (.reg [o_ 2 (.mv (.k (.int .i64 (-1))))]) (.ret))))
def r62:List RR:=[.t 2]
theorem ok62:okFn Go.Proofs.Tryz.prog 174 17 c62 r62 1=true:=by kernel_rfl
def c112:SCode:=
 .seq (.reg [o_ 4 (.mv (.k (.bool false)))]) (.seq (.reg [m_ 5 0,m_ 6 1,o_ 7 (.call (.f 188) [.t 5,.t 6]),o_ 8 (.bin .geq (.t 7) (.k (.int .i64 0))),m_ 4 8]) (.ret))
def r112:List RR:=[.t 4]
theorem ok112:okFn Go.Proofs.Tryz.prog 175 9 c112 r112 2=true:=by kernel_rfl
def c124b0:SCode:=
 .seq (.reg [o_ 9 (.bin .lss (.t 8) (.t 7))]) (.seq (.cond (.t 9) (.skip) (.exit 0)) (.seq (.block 1 (.seq (.reg [m_ 10 8,m_ 5 10]) (.seq (.reg [m_ 11 1,m_ 12 0,m_ 13 5,o_ 14 (.iad 63 3 (.t 12) (.t 13)),o_ 15 (.ldn 63 3 (.t 14)),o_ 16 (.call (.t 11) [.t 15])]) (.cond (.t 16) (.seq (.reg [m_ 17 5,m_ 4 17]) (.ret)) (.skip))))) (.reg [o_ 18 (.bin .add (.t 8) (.k (.int .i64 1))),m_ 8 18])))
def c124:SCode:=
 .seq (.reg [o_ 4 (.mv (.k (.int .i64 0)))]) (.seq (.seq (.reg [m_ 6 0,o_ 7 (.len 61 (.t 6)),o_ 8 (.mv (.k (.int .i64 0)))]) (.block 0 (.loop c124b0))) (.seq (.reg [o_ 4 (.mv (.k (.int .i64 (-1))))]) (.ret)))
def r124:List RR:=[.t 4]
theorem ok124:okFn Go.Proofs.Tryz.prog 188 19 c124 r124 2=true:=by kernel_rfl
end Go.Abs

namespace Go.Abs
open Go.Proofs
theorem fn20 (t:T):Fn Tryz.prog 151 [tm t] (ib t.size):=by
 induction t using T.ind with
 | h k n ts ih=>
 refine fn_of (base:=20000) ok20 rfl fun σ h0 hr=>?_
 have s0:=h0 0
 rw [slots0] at s0
 have hlen:=real_kids (hr (tm (.mk k n ts)) (by simp))
 rw [kids_mk] at hlen
 simp only [tm,cells_mk] at s0
 clear h0 hr
 unfold c20
 simp [s0]
 refine W_loop (fun m σ=>∃ (i:Nat) (a:Int),i + m=ts.length ∧ T.sizeL a (ts.drop i)=T.sizeL 1 ts ∧ σ.sl 3=ib a ∧ σ.sl 7=tms ts ∧ σ.sl 8=ib ts.length ∧ σ.sl 9=ib i) ts.length ?_ ?_
 ·exact ⟨0,1,by simp [ib,tms]⟩
 ·rintro m σ ⟨i,a,hm,hp,q3,q7,q8,q9⟩
  unfold c20b0
  simp only [tms,ib] at q3 q7 q8 q9
  by_cases hi:i < ts.length
  ·obtain ⟨t,ht⟩:=at_of hi
   obtain ⟨_,ht'⟩:=getE ht
   have w1:=wrap_succ (i:=i) (by omega)
   simp [q3,q7,q8,q9,hi,ht']
   refine ECall.fn (ih t (List.mem_of_getElem? ht)) (by simp [tm]) (by simp) rfl fun _=>?_
   simp [ib,q3,q9]
   rw [drop_at ht,T.sizeL] at hp
   refine ⟨m - 1,by omega,i + 1,by omega,_,hp,?_⟩
   simp [q7,q8,tms,w1]
  ·simp [q3,q7,q8,q9,hi,r20,ib,T.size]
   rw [← hp,List.drop_eq_nil_of_le (by omega),T.sizeL]
theorem fn21 (t:T):Fn Tryz.prog 152 [tm t] (ib t.depth):=by
 induction t using T.ind with
 | h k n ts ih=>
 refine fn_of (base:=21000) ok21 rfl fun σ h0 hr=>?_
 have s0:=h0 0
 rw [slots0] at s0
 have hlen:=real_kids (hr (tm (.mk k n ts)) (by simp))
 rw [kids_mk] at hlen
 simp only [tm,cells_mk] at s0
 clear h0 hr
 unfold c21
 simp [s0]
 refine W_loop (fun m σ=>∃ (i:Nat) (a:Int),i + m=ts.length ∧ T.depthL a (ts.drop i)=T.depthL 0 ts ∧ σ.sl 3=ib a ∧ σ.sl 7=tms ts ∧ σ.sl 8=ib ts.length ∧ σ.sl 9=ib i) ts.length ?_ ?_
 ·exact ⟨0,0,by simp [ib,tms]⟩
 ·rintro m σ ⟨i,a,hm,hp,q3,q7,q8,q9⟩
  unfold c21b0
  simp only [tms,ib] at q3 q7 q8 q9
  by_cases hi:i < ts.length
  ·obtain ⟨t,ht⟩:=at_of hi
   obtain ⟨_,ht'⟩:=getE ht
   have w1:=wrap_succ (i:=i) (by omega)
   simp [q3,q7,q8,q9,hi,ht']
   refine ECall.fn (ih t (List.mem_of_getElem? ht)) (by simp [tm]) (by simp) rfl fun _=>?_
   simp [ib,q3,q9]
   rw [drop_at ht,T.depthL] at hp
   refine ⟨m - 1,by omega,i + 1,by omega,_,hp,?_⟩
   simp [q7,q8,tms,w1]
  ·simp [q3,q7,q8,q9,hi,r21,ib,T.depth]
   rw [← hp,List.drop_eq_nil_of_le (by omega),T.depthL]
theorem fn28 (t:T):Fn Tryz.prog 37 [tm t] (ib t.size):=by
 induction t using T.ind with
 | h k n ts ih=>
 refine fn_of (base:=28000) ok28 rfl fun σ h0 hr=>?_
 have s0:=h0 0
 rw [slots0] at s0
 have hlen:=real_kids (hr (tm (.mk k n ts)) (by simp))
 rw [kids_mk] at hlen
 simp only [tm,cells_mk] at s0
 clear h0 hr
 unfold c28
 simp [s0]
 refine W_loop (fun m σ=>∃ (i:Nat) (a:Int),i + m=ts.length ∧ T.sizeL a (ts.drop i)=T.sizeL 1 ts ∧ σ.sl 3=ib a ∧ σ.sl 1=.c (.ref 28001 (σ.tg 28001) 0) ∧ σ.ob 28001=some (.box 63 (T.mk k n ts).cells) ∧ σ.sl 4=ib i) ts.length ?_ ?_
 ·exact ⟨0,1,by simp [ib,cells_mk]⟩
 ·rintro m σ ⟨i,a,hm,hp,q3,q1,qo,q4⟩
  unfold c28b0
  simp only [cells_mk,ib] at q3 q1 qo q4
  by_cases hi:i < ts.length
  ·obtain ⟨t,ht⟩:=at_of hi
   obtain ⟨_,ht'⟩:=getE ht
   have w1:=wrap_succ (i:=i) (by omega)
   simp [q3,q1,qo,q4,hi,ht']
   refine ECall.fn (ih t (List.mem_of_getElem? ht)) (by simp [tm]) (by simp) rfl fun _=>?_
   simp [ib,q3,q4]
   rw [drop_at ht,T.sizeL] at hp
   refine ⟨m - 1,by omega,i + 1,by omega,_,hp,?_⟩
   simp [q1,qo,w1,cells_mk]
  ·simp [q3,q1,qo,q4,hi,r28,ib,T.size]
   rw [← hp,List.drop_eq_nil_of_le (by omega),T.sizeL]
theorem fn29 (t:T):Fn Tryz.prog 58 [tm t] (ib t.depth):=by
 induction t using T.ind with
 | h k n ts ih=>
 refine fn_of (base:=29000) ok29 rfl fun σ h0 hr=>?_
 have s0:=h0 0
 rw [slots0] at s0
 have hlen:=real_kids (hr (tm (.mk k n ts)) (by simp))
 rw [kids_mk] at hlen
 simp only [tm,cells_mk] at s0
 clear h0 hr
 unfold c29
 simp [s0]
 refine W_loop (fun m σ=>∃ (i:Nat) (a:Int),i + m=ts.length ∧ T.depthL a (ts.drop i)=T.depthL 0 ts ∧ σ.sl 3=ib a ∧ σ.sl 1=.c (.ref 29001 (σ.tg 29001) 0) ∧ σ.ob 29001=some (.box 63 (T.mk k n ts).cells) ∧ σ.sl 4=ib i) ts.length ?_ ?_
 ·exact ⟨0,0,by simp [ib,cells_mk]⟩
 ·rintro m σ ⟨i,a,hm,hp,q3,q1,qo,q4⟩
  unfold c29b0
  simp only [cells_mk,ib] at q3 q1 qo q4
  by_cases hi:i < ts.length
  ·obtain ⟨t,ht⟩:=at_of hi
   obtain ⟨_,ht'⟩:=getE ht
   have w1:=wrap_succ (i:=i) (by omega)
   simp [q3,q1,qo,q4,hi,ht']
   refine ECall.fn (ih t (List.mem_of_getElem? ht)) (by simp [tm]) (by simp) rfl fun _=>?_
   simp [ib,q3,q4]
   rw [drop_at ht,T.depthL] at hp
   refine ⟨m - 1,by omega,i + 1,by omega,_,hp,?_⟩
   simp [q1,qo,w1,cells_mk]
  ·simp [q3,q1,qo,q4,hi,r29,ib,T.depth]
   rw [← hp,List.drop_eq_nil_of_le (by omega),T.depthL]
end Go.Abs

namespace Go.Abs
open Go.Proofs
theorem fn111 (k:Int):Fn Tryz.prog 187 [ib k] (bb (decide (1 ≤ k) && decide (k ≤ 13))):=by
 refine fn_of (base:=111000) ok111 rfl fun σ h0 hr=>?_
 have s0:=h0 0
 rw [slots0] at s0
 simp only [ib] at s0
 clear h0 hr
 unfold c111
 simp [s0,r111,bb]
set_option maxHeartbeats 2000000 in
theorem fn62 (k:Int):Fn Tryz.prog 174 [ib k] (ib (kidsOf k)):=by
 refine fn_of (base:=62000) ok62 rfl fun σ h0 hr=>?_
 have s0:=h0 0
 rw [slots0] at s0
 simp only [ib] at s0
 clear h0 hr
 unfold c62
 by_cases h1:k=1
 ·subst h1;simp [s0,r62,ib,kidsOf]
 by_cases h2:k=2
 ·subst h2;simp [s0,r62,ib,kidsOf]
 by_cases h3:k=3
 ·subst h3;simp [s0,r62,ib,kidsOf]
 by_cases h9:k=9
 ·subst h9;simp [s0,r62,ib,kidsOf]
 by_cases h10:k=10
 ·subst h10;simp [s0,r62,ib,kidsOf]
 by_cases h8:k=8
 ·subst h8;simp [s0,r62,ib,kidsOf]
 by_cases h11:k=11
 ·subst h11;simp [s0,r62,ib,kidsOf]
 by_cases h13:k=13
 ·subst h13;simp [s0,r62,ib,kidsOf]
 simp [s0,h1,h2,h3,h9,h10,h8,h11,h13]
 refine ECall.fn (fn111 k) (by simp [ib]) (by simp) rfl fun _=>?_
 simp [bb,r62,ib,kidsOf,h1,h2,h3,h9,h10,h8,h11,h13]
def idx {α:Type} (p:α → Bool):Int → List α → Int
 | _,[]=>-1
 | i,t :: ts=>if p t then i else idx p (i + 1) ts
theorem idx_any {α:Type} {p:α → Bool}:∀ {ts:List α} {i:Int},0 ≤ i → decide (0 ≤ idx p i ts)=ts.any p
 | [],i,h=>by simp [idx]
 | t :: ts,i,h=>by
  simp only [idx,List.any_cons]
  by_cases hp:p t
  ·simp [hp,h]
  ·simp [hp]
   have:=idx_any (p:=p) (ts:=ts) (i:=i + 1) (by omega)
   simpa using this
theorem fn124 {f:Nat} {p:T → Bool} {ts:List T} (hf:∀ t,t ∈ ts → Fn Tryz.prog f [tm t] (bb (p t))):Fn Tryz.prog 188 [tms ts,.c (.clo f [] [])] (ib (idx p 0 ts)):=by
 refine fn_of (base:=124000) ok124 rfl fun σ h0 hr=>?_
 have s0:=h0 0
 have s1:=h0 1
 rw [slots0] at s0
 rw [slots1] at s1
 have hlen:=real_tms (hr (tms ts) (by simp))
 simp only [tms] at s0
 clear h0 hr
 unfold c124
 simp [s0,s1]
 refine W_loop (fun m σ=>∃ (i:Nat),i + m=ts.length ∧ idx p i (ts.drop i)=idx p 0 ts ∧ σ.sl 0=tms ts ∧ σ.sl 1=.c (.clo f [] []) ∧ σ.sl 7=ib ts.length ∧ σ.sl 8=ib i) ts.length ?_ ?_
 ·exact ⟨0,by simp [ib,tms,s0,s1]⟩
 ·rintro m σ ⟨i,hm,hp,q0,q1,q7,q8⟩
  unfold c124b0
  simp only [tms,ib] at q0 q1 q7 q8
  by_cases hi:i < ts.length
  ·obtain ⟨t,ht⟩:=at_of hi
   obtain ⟨_,ht'⟩:=getE ht
   have w1:=wrap_succ (i:=i) (by omega)
   rw [drop_at ht,idx] at hp
   simp [q0,q1,q7,q8,hi,ht']
   refine ECall.fn (hf t (List.mem_of_getElem? ht)) (by simp [tm]) (by simp) rfl fun _=>?_
   simp [bb,q8]
   constructor
   ·intro hd
    rw [if_pos hd] at hp
    simp [r124,ib,← hp]
   ·intro hd
    rw [if_neg (by simp [hd])] at hp
    refine ⟨m - 1,by omega,i + 1,by omega,by simpa using hp,?_⟩
    simp [q0,q1,q7,tms,ib,w1]
  ·simp [q0,q1,q7,q8,hi,r124,ib]
   rw [← hp,List.drop_eq_nil_of_le (by omega),idx]
theorem fn112 {f:Nat} {p:T → Bool} {ts:List T} (hf:∀ t,t ∈ ts → Fn Tryz.prog f [tm t] (bb (p t))):Fn Tryz.prog 175 [tms ts,.c (.clo f [] [])] (bb (ts.any p)):=by
 refine fn_of (base:=112000) ok112 rfl fun σ h0 hr=>?_
 have s0:=h0 0
 have s1:=h0 1
 rw [slots0] at s0
 rw [slots1] at s1
 simp only [tms] at s0
 clear h0 hr
 unfold c112
 simp [s0,s1]
 refine ECall.fn (fn124 hf) (by simp [tms]) (by simp) rfl fun _=>?_
 simp [r112,bb,ib,← idx_any (p:=p) (ts:=ts) (i:=0)]
theorem fn113 {t:T} (h65:Fn Tryz.prog 153 [tm t] (bb t.formed)):Fn Tryz.prog 176 [tm t] (bb (!t.formed)):=by
 refine fn_of (base:=113000) ok113 rfl fun σ h0 hr=>?_
 have s0:=h0 0
 rw [slots0] at s0
 simp only [tm] at s0
 clear h0 hr
 unfold c113
 simp [s0]
 refine ECall.fn h65 (by simp [tm]) (by simp) rfl fun _=>?_
 simp [r113,bb]
theorem fn65 (t:T):Fn Tryz.prog 153 [tm t] (bb t.formed):=by
 induction t using T.ind with
 | h k n ts ih=>
 have h112:=fn112 (ts:=ts) (p:=fun t=>!t.formed) fun t ht=>fn113 (ih t ht)
 refine fn_of (base:=65000) ok65 rfl fun σ h0 hr=>?_
 have s0:=h0 0
 rw [slots0] at s0
 simp only [tm,cells_mk] at s0
 clear h0 hr
 unfold c65
 simp [s0]
 refine ECall.fn (fn62 k) (by simp [ib]) (by simp) rfl fun _=>?_
 simp [ib,r65,bb]
 refine ⟨fun hb=>?_,fun h1 h2 h3 h4 h5=>?_⟩
 ·have hb':badHead k n ts.length=true:=by simp [badHead];exact hb
  simp [T.formed,hb']
 ·have hb':badHead k n ts.length=false:=by simp [badHead];exact ⟨⟨⟨⟨h1,h2⟩,h3⟩,h4⟩,h5⟩
  refine ECall.fn h112 (by simp [tms]) (by simp) rfl fun _=>?_
  simp [bb,T.formed,hb',formedL_all]
  exact (List.not_all_eq_any_not ..).symm
theorem fn22 (t:T):Fn Tryz.prog 112 [tm t] (ib t.check):=by
 refine fn_of (base:=22000) ok22 rfl fun σ h0 hr=>?_
 have s0:=h0 0
 rw [slots0] at s0
 simp only [tm] at s0
 clear h0 hr
 unfold c22
 simp [s0]
 refine ECall.fn (fn20 t) (by simp [tm]) (by simp) rfl fun _=>?_
 simp [ib]
 refine ⟨fun h1=>by simp [r22,h1,T.check],fun h1=>?_⟩
 simp [show ¬ 6000 < t.size by omega]
 refine ECall.fn (fn21 t) (by simp [tm]) (by simp) rfl fun _=>?_
 simp [ib]
 refine ⟨fun h2=>by simp [r22,h2,T.check,show ¬ 6000 < t.size by omega],fun h2=>?_⟩
 simp [show ¬ 200 < t.depth by omega]
 refine ECall.fn (fn65 t) (by simp [tm]) (by simp) rfl fun _=>?_
 simp [bb]
 refine ⟨fun h3=>by simp [r22,h3,T.check,show ¬ 6000 < t.size by omega,show ¬ 200 < t.depth by omega],fun h3=>by simp [r22,h3,T.check,show ¬ 6000 < t.size by omega,show ¬ 200 < t.depth by omega]⟩
end Go.Abs

namespace Go.Abs
open Go.Proofs
theorem fn24 (n:Int):Fn Tryz.prog 33 [ib n] (tm (.mk 2 n [])):=by
 refine fn_of (base:=24000) ok24 rfl fun σ h0 hr=>?_
 have s0:=h0 0
 rw [slots0] at s0
 simp only [ib] at s0
 clear h0 hr
 unfold c24
 simp [s0,r24,tm,cells_mk]
def idxI (x:Int):Int → List Int → Int
 | _,[]=>-1
 | i,n :: ns=>if x=n then i else idxI x (i + 1) ns
theorem idxI_any {x:Int}:∀ {ns:List Int} {i:Int},0 ≤ i → decide (0 ≤ idxI x i ns)=decide (x ∈ ns)
 | [],i,h=>by simp [idxI]
 | n :: ns,i,h=>by
  simp only [idxI]
  by_cases hp:x=n
  ·simp [hp,h]
  ·simp [hp]
   have:=idxI_any (x:=x) (ns:=ns) (i:=i + 1) (by omega)
   simpa using this
theorem fn115 (ns:List Int) (x:Int):Fn Tryz.prog 189 [is ns,ib x] (ib (idxI x 0 ns)):=by
 refine fn_of (base:=115000) ok115 rfl fun σ h0 hr=>?_
 have s0:=h0 0
 have s1:=h0 1
 rw [slots0] at s0
 rw [slots1] at s1
 have hlen:=real_is (hr (is ns) (by simp))
 simp only [ib,is] at s0 s1
 clear h0 hr
 unfold c115
 simp [s0,s1]
 refine W_loop (fun m σ=>∃ (i:Nat),i + m=ns.length ∧ idxI x i (ns.drop i)=idxI x 0 ns ∧ σ.sl 0=is ns ∧ σ.sl 1=ib x ∧ σ.sl 7=ib ns.length ∧ σ.sl 8=ib i) ns.length ?_ ?_
 ·exact ⟨0,by simp [ib,is,s0,s1]⟩
 ·rintro m σ ⟨i,hm,hp,q0,q1,q7,q8⟩
  unfold c115b0
  simp only [is,ib] at q0 q1 q7 q8
  by_cases hi:i < ns.length
  ·obtain ⟨t,ht⟩:=at_of hi
   obtain ⟨_,ht'⟩:=getE ht
   have w1:=wrap_succ (i:=i) (by omega)
   rw [drop_at ht,idxI] at hp
   by_cases hx:x=t
   ·rw [if_pos hx] at hp
    subst hx
    simp [q0,q1,q7,q8,hi,ht',r115,ib,← hp]
   ·rw [if_neg hx] at hp
    simp [q0,q1,q7,q8,hi,ht',hx]
    refine ⟨m - 1,by omega,i + 1,by omega,by simpa using hp,?_⟩
    simp [is,ib,w1]
  ·simp [q0,q1,q7,q8,hi,r115,ib]
   rw [← hp,List.drop_eq_nil_of_le (by omega),idxI]
theorem fn69 (ns:List Int) (x:Int):Fn Tryz.prog 177 [is ns,ib x] (bb (decide (x ∈ ns))):=by
 refine fn_of (base:=69000) ok69 rfl fun σ h0 hr=>?_
 have s0:=h0 0
 have s1:=h0 1
 rw [slots0] at s0
 rw [slots1] at s1
 simp only [ib,is] at s0 s1
 clear h0 hr
 unfold c69
 simp [s0,s1]
 refine ECall.fn (fn115 ns x) (by simp [is,ib]) (by simp) rfl fun _=>?_
 simp [r69,bb,ib,← idxI_any (x:=x) (ns:=ns) (i:=0)]
theorem fn31 (k i:Int):Fn Tryz.prog 154 [ib k,ib i] (ib (bindsOf k i)):=by
 refine fn_of (base:=31000) ok31 rfl fun σ h0 hr=>?_
 have s0:=h0 0
 have s1:=h0 1
 rw [slots0] at s0
 rw [slots1] at s1
 simp only [ib] at s0 s1
 clear h0 hr
 unfold c31
 simp [s0,s1,room]
 refine GCall.fn (fun _=>fn69 [4,5,7] k) (by simp [is,ib]) (by simp) rfl fun _=>?_
 simp [bb,r31,ib,bindsOf]
 intro h1 h2
 exact ⟨h1,by omega⟩
theorem fn68 (t:T) (a b:Int):Fn Tryz.prog 113 [tm t,ib a,ib b] (bb (t.within a b)):=by
 induction t using T.ind generalizing a b with
 | h k n ts ih=>
 refine fn_of (base:=68000) ok68 rfl fun σ h0 hr=>?_
 have s0:=h0 0
 have s1:=h0 1
 have s2:=h0 2
 rw [slots0] at s0
 rw [slots1] at s1
 rw [slots2] at s2
 have hlen:=real_kids (hr (tm (.mk k n ts)) (by simp))
 rw [kids_mk] at hlen
 simp only [tm,cells_mk,ib] at s0 s1 s2
 clear h0 hr
 unfold c68
 by_cases h1:k=1
 ·subst h1;simp [s0,s1,s2,r68,bb,T.within]
 by_cases h2:k=2
 ·subst h2;simp [s0,s1,s2,r68,bb,T.within]
 by_cases h3:k=3
 ·subst h3;simp [s0,s1,s2,r68,bb,T.within]
 simp [s0,s1,s2,h1,h2,h3]
 refine W_loop (fun m σ=>∃ (i:Nat),i + m=ts.length ∧ T.withinL k a b i (ts.drop i)=T.withinL k a b 0 ts ∧ σ.sl 1=ib a ∧ σ.sl 2=ib b ∧ σ.sl 3=.c (.ref 68003 (σ.tg 68003) 0) ∧ σ.ob 68003=some (.box 63 (T.mk k n ts).cells) ∧ σ.sl 29=tms ts ∧ σ.sl 30=ib ts.length ∧ σ.sl 31=ib i) ts.length ?_ ?_
 ·exact ⟨0,by simp [ib,tms,cells_mk,s1,s2]⟩
 ·rintro m σ ⟨i,hm,hp,q1,q2,q3,qo,q29,q30,q31⟩
  unfold c68b0
  simp only [tms,ib,cells_mk] at q1 q2 q3 qo q29 q30 q31
  by_cases hi:i < ts.length
  ·obtain ⟨t,ht⟩:=at_of hi
   obtain ⟨_,ht'⟩:=getE ht
   have w1:=wrap_succ (i:=i) (by omega)
   rw [drop_at ht,T.withinL] at hp
   simp [q1,q2,q3,qo,q29,q30,q31,hi,ht']
   refine W_dregA ?_
   simp [q1,q2,q3,qo,q29,q30,q31,hi,ht']
   refine CallA.fn (fn31 k i) (by simp [ib]) (by simp) rfl ?_
   simp [ib,q1,q2]
   refine CallA.fn (ih t (List.mem_of_getElem? ht) (IntKind.wrap .i64 (a + bindsOf k i)) b) (by simp [ib,tm]) (by simp) rfl ?_
   simp [bb]
   refine realC_n ?_
   simp
   constructor
   ·intro hd
    simp [r68,← hp,hd,T.within,h1,h2,h3]
   ·intro hd
    rw [hd,Bool.true_and] at hp
    simp [q31]
    refine ⟨m - 1,by omega,i + 1,by omega,by simpa using hp,?_⟩
    simp [q1,q2,q3,qo,q29,q30,tms,ib,w1,cells_mk]
  ·simp [q1,q2,q3,qo,q29,q30,q31,hi,r68,bb,T.within,h1,h2,h3]
   rw [← hp,List.drop_eq_nil_of_le (by omega),T.withinL]
theorem fn30 (t:T) (a b:Int):Fn Tryz.prog 81 [tm t,ib a,ib b] (bb (t.scope a b)):=by
 refine fn_of (base:=30000) ok30 rfl fun σ h0 hr=>?_
 have s0:=h0 0
 have s1:=h0 1
 have s2:=h0 2
 rw [slots0] at s0
 rw [slots1] at s1
 rw [slots2] at s2
 simp only [tm,ib] at s0 s1 s2
 clear h0 hr
 unfold c30
 simp [s0,s1,s2]
 refine GCall.fn (fun _=>fn22 t) (by simp [tm]) (by simp) rfl fun _=>?_
 simp [ib,s1,s2]
 refine GCall.fn (fun _=>fn68 t (best2 false a 65536) b) (by simp [tm,ib]) (by simp) rfl fun _=>?_
 simp [bb,r30,T.scope]
end Go.Abs

namespace Go.Abs
open Go.Proofs
mutual
def T.cnt:T → Int → Int → Int
 | .mk k n ts,b,d=>T.cntL k b d 0 (if k=1 ∧ n=IntKind.wrap .i64 (b + d) then 1 else 0) ts
def T.cntL (k b d:Int):Int → Int → List T → Int
 | _,a,[]=>a
 | i,a,t :: ts=>T.cntL k b d (i + 1) (IntKind.wrap .i64 (a + T.cnt t b (IntKind.wrap .i64 (d + bindsOf k i)))) ts
end
end Go.Abs

namespace Go.Abs
end Go.Abs

namespace Go.Abs
open Go.Proofs
end Go.Abs

namespace Go.Abs
open Go.Proofs
section
variable {S:Type} (V:S → Int → Int → T) (N:S → Int → Int → S)
end
theorem Holds.puts {σ:St} {l:Objs} (h:∀ k t q,l.lookup k=some (t,q) → σ.tg k=t):Holds (σ.puts l) l:=fun k t q hk=>⟨puts_some hk,h k t q hk⟩
end Go.Abs

namespace Go.Abs
open Go.Proofs
end Go.Abs

namespace Go.Abs
open Go.Proofs
def heavyL:Int → List T → Bool
 | n,[]=>decide (9000 < n)
 | n,t :: ts=>if 300 < t.depth then true else heavyL (IntKind.wrap .i64 (n + t.size)) ts
def heavy (ts:List T):Bool:=if 60 < ts.length then true else heavyL 0 ts
theorem fn17 (ts:List T):Fn Tryz.prog 35 [tms ts] (bb (heavy ts)):=by
 refine fn_of (base:=17000) ok17 rfl fun σ h0 hr=>?_
 have s0:=h0 0
 rw [slots0] at s0
 have hlen:=real_tms (hr (tms ts) (by simp))
 simp only [tms] at s0
 clear h0 hr
 unfold c17
 by_cases h60:60 < ts.length
 ·have h60':(60:Int) < ts.length:=by omega
  simp [s0,h60',r17,bb,heavy,h60]
 ·have h60':¬ (60:Int) < ts.length:=by omega
  simp [s0,h60']
  refine W_loop (fun m σ=>∃ (i:Nat) (a:Int),i + m=ts.length ∧ heavyL a (ts.drop i)=heavyL 0 ts ∧ σ.sl 3=ib a ∧ σ.sl 0=tms ts ∧ σ.sl 4=ib i) ts.length ?_ ?_
  ·exact ⟨0,0,by simp [ib,tms,s0]⟩
  ·rintro m σ ⟨i,a,hm,hp,q3,q0,q4⟩
   unfold c17b0
   simp only [tms,ib] at q3 q0 q4
   by_cases hi:i < ts.length
   ·obtain ⟨t,ht⟩:=at_of hi
    obtain ⟨_,ht'⟩:=getE ht
    have w1:=wrap_succ (i:=i) (by omega)
    rw [drop_at ht,heavyL] at hp
    simp [q3,q0,q4,hi,ht']
    refine ECall.fn (fn29 t) (by simp [tm]) (by simp) rfl fun _=>?_
    simp [ib,q3,q4]
    constructor
    ·intro hd
     rw [if_pos hd] at hp
     simp [r17,bb,heavy,h60,← hp]
    ·intro hd
     have hd':¬ 300 < t.depth:=by omega
     rw [if_neg hd'] at hp
     simp [q3,q0,q4,hi,ht']
     refine ECall.fn (fn28 t) (by simp [tm]) (by simp) rfl fun _=>?_
     simp [ib,q3,q4]
     refine ⟨m - 1,by omega,i + 1,by omega,_,hp,?_⟩
     simp [q0,tms,w1]
   ·simp [q3,q0,q4,hi,r17,bb,heavy,h60]
    rw [← hp,List.drop_eq_nil_of_le (by omega),heavyL]
theorem fn64 {ts:List T} (h19:∀ t,t ∈ ts → Fn Tryz.prog 44 [tm t] (tm t)):Fn Tryz.prog 65 [tms ts] (tms ts):=by
 refine fn_of (base:=64000) ok64 rfl fun σ h0 hr=>?_
 have s0:=h0 0
 rw [slots0] at s0
 have hlen:=real_tms (hr (tms ts) (by simp))
 simp only [tms] at s0
 clear h0 hr
 unfold c64
 simp [s0]
 refine W_loop (fun m σ=>∃ (i:Nat),i + m=ts.length ∧ ((i=0 ∧ σ.sl 3=.c (.cap 3 40 [])) ∨ (0 < i ∧ σ.sl 3=.c (.own 64018 (σ.tg 64018)) ∧ σ.ob 64018=some (.row 63 3 40 ((ts.take i).map T.cells)))) ∧ σ.sl 0=tms ts ∧ σ.sl 4=ib i) ts.length ?_ ?_
 ·exact ⟨0,by simp [ib,tms,s0]⟩
 ·rintro m σ ⟨i,hm,hp,q0,q4⟩
  unfold c64b0
  simp only [tms,ib] at q0 q4
  by_cases hi:i < ts.length
  ·obtain ⟨t,ht⟩:=at_of hi
   obtain ⟨_,ht'⟩:=getE ht
   have w1:=wrap_succ (i:=i) (by omega)
   have htake:(ts.map T.cells).take i ++ [t.cells]=(ts.map T.cells).take (i + 1):=by
    rw [List.take_add_one,List.getElem?_map,ht];simp
   have hroom:(i + 1) * 40 ≤ room:=by simp only [room];omega
   have hmin:min i ts.length=i:=by omega
   rcases hp with ⟨h1,q3⟩ | ⟨h1,q3,qo⟩
   ·subst h1
    simp [q3,q0,q4,hi,ht']
    refine ECall.fn (h19 t (List.mem_of_getElem? ht)) (by simp [tm]) (by simp [tm]) (by simp [tm,AV.keys2,AV.keys1]) fun _=>?_
    simp [tm,q3,q4,room,AV.keys1,keysCs]
    refine ⟨fun x hx=>cells_isD' t x hx,m - 1,by omega,1,by omega,⟨by omega,by simpa using htake⟩,?_⟩
    simp at w1
    simp [q0,w1,ib,tms]
   ·simp [q3,q0,q4,hi,ht']
    refine ECall.fn (h19 t (List.mem_of_getElem? ht)) (by simp [tm]) (by simp [tm]) (by simp [tm,AV.keys2,AV.keys1]) fun _=>?_
    simp [tm,q3,q4,qo,hmin,hroom]
    refine ⟨⟨fun x hx=>cells_isD' t x hx,by simp [room]⟩,m - 1,by omega,i + 1,by omega,⟨by omega,htake⟩,?_⟩
    simp [q0,w1,ib,tms]
  ·simp [q0,q4,hi,r64]
   rcases hp with ⟨h1,q3⟩ | ⟨h1,q3,qo⟩
   ·have:ts=[]:=List.length_eq_zero_iff.1 (by omega)
    simp [q3,this,tms]
   ·have:ts.take i=ts:=List.take_of_length_le (by omega)
    simp [q3,qo,tms,this]
theorem fn19 (t:T):Fn Tryz.prog 44 [tm t] (tm t):=by
 induction t using T.ind with
 | h k n ts ih=>
 have h64:=fn64 ih
 refine fn_of (base:=19000) ok19 rfl fun σ h0 hr=>?_
 have s0:=h0 0
 rw [slots0] at s0
 simp only [tm,cells_mk] at s0
 clear h0 hr
 unfold c19
 simp [s0]
 refine W_dregA ?_
 simp
 refine CallA.fn h64 (by simp [tms]) (by simp) rfl ?_
 simp [tms]
 refine ⟨rfl,realC_n ?_⟩
 simp [r19,tm,cells_mk]
end Go.Abs

namespace Go.Abs
end Go.Abs

namespace Go.Abs
open Go.Proofs
theorem eqb_eq (t u:T):T.eqb t u=true ↔ t=u:=by
 induction t using T.ind generalizing u with
 | h k n ts ih=>
 obtain ⟨k',n',us⟩:=u
 have key:∀ (ts us:List T),(∀ t,t ∈ ts → ∀ u,T.eqb t u=true ↔ t=u) → (T.eqbL ts us=true ↔ ts=us):=by
  intro ts
  induction ts with
  | nil=>intro us _;cases us <;> simp [T.eqbL]
  | cons t ts ih2=>
   intro us h
   cases us with
   | nil=>simp [T.eqbL]
   | cons u us=>
    simp only [T.eqbL,Bool.and_eq_true,List.cons.injEq]
    rw [h t (by simp) u,ih2 us fun t ht=>h t (by simp [ht])]
 simp only [T.eqb,Bool.and_eq_true,decide_eq_true_eq,T.mk.injEq]
 rw [key ts us ih]
 exact ⟨fun h=>⟨h.1.1,h.1.2,h.2⟩,fun h=>⟨⟨h.1,h.2.1⟩,h.2.2⟩⟩
theorem eqb_self (t:T):T.eqb t t=true:=(eqb_eq t t).2 rfl
def wk:T:=.mk 5 0 [.mk 2 0 [],.mk 1 0 []]
end Go.Abs

namespace Go.Abs
open Go.Proofs
def T.zero:T:=.mk 0 0 []
end Go.Abs

namespace Go.Abs
def c126:SCode:=
 .seq (.reg [o_ 2 (.box 126 (.t 0)),o_ 3 (.box 126 (.t 1)),o_ 4 (.mv (.k (.bool false)))]) (.seq (.reg [o_ 5 (.fad 126 0 0 (.t 2)),o_ 6 (.ld1 4 (.t 5)),o_ 7 (.fad 126 0 0 (.t 3)),o_ 8 (.ld1 4 (.t 7)),o_ 9 (.beq false 4 (.t 6) (.t 8)),m_ 10 9,p_ 11 10 (.fad 126 1 1 (.t 2)),p_ 12 10 (.ldn 63 3 (.t 11)),p_ 13 10 (.fad 126 1 1 (.t 3)),p_ 14 10 (.ldn 63 3 (.t 13)),p_ 15 10 (.call (.f 49) [.t 12,.t 14]),o_ 16 (.pick (.t 10) (.t 15) (.k (.bool false))),m_ 17 16,p_ 18 17 (.fad 126 2 4 (.t 2)),p_ 19 17 (.ld1 61 (.t 18)),p_ 20 17 (.fad 126 2 4 (.t 3)),p_ 21 17 (.ld1 61 (.t 20)),p_ 22 17 (.call (.f 80) [.t 19,.t 21]),o_ 23 (.pick (.t 17) (.t 22) (.k (.bool false))),m_ 24 23,p_ 25 24 (.fad 126 3 5 (.t 2)),p_ 26 24 (.ld1 3 (.t 25)),p_ 27 24 (.fad 126 3 5 (.t 3)),p_ 28 24 (.ld1 3 (.t 27)),p_ 29 24 (.bin .eql (.t 26) (.t 28)),o_ 30 (.pick (.t 24) (.t 29) (.k (.bool false))),m_ 31 30,
 p_ 32 31 (.fad 126 4 6 (.t 2)),p_ 33 31 (.ld1 61 (.t 32)),p_ 34 31 (.fad 126 4 6 (.t 3)),p_ 35 31 (.ld1 61 (.t 34)),p_ 36 31 (.call (.f 80) [.t 33,.t 35]),o_ 37 (.pick (.t 31) (.t 36) (.k (.bool false))),m_ 4 37]) (.ret))
def r126:List RR:=[.t 4]
theorem ok126:okFn Go.Proofs.Tryz.prog 111 38 c126 r126 2=true:=by kernel_rfl
def c118b0:SCode:=
 .seq (.seq (.reg [m_ 11 5,m_ 12 0,o_ 13 (.len 102 (.t 12)),o_ 14 (.bin .lss (.t 11) (.t 13))]) (.cond (.t 14) (.skip) (.exit 0))) (.seq (.block 1 (.seq (.dreg [0,0,3,7,0,0,48,112,255,511] [m_ 17 0,m_ 18 5,o_ 19 (.iad 126 7 (.t 17) (.t 18)),o_ 20 (.ldn 126 7 (.t 19)),m_ 21 1,m_ 22 5,o_ 23 (.iad 126 7 (.t 21) (.t 22)),o_ 24 (.ldn 126 7 (.t 23)),o_ 25 (.call (.f 111) [.t 20,.t 24]),o_ 26 (.not (.t 25))]) (.cond (.t 26) (.seq (.reg [o_ 4 (.mv (.k (.bool false)))]) (.ret)) (.skip)))) (.reg [m_ 15 5,o_ 16 (.bin .add (.t 15) (.k (.int .i64 1))),m_ 5 16]))
def c118:SCode:=
 .seq (.reg [o_ 4 (.mv (.k (.bool false)))]) (.seq (.seq (.reg [m_ 6 0,o_ 7 (.len 102 (.t 6)),m_ 8 1,o_ 9 (.len 102 (.t 8)),o_ 10 (.bin .neq (.t 7) (.t 9))]) (.cond (.t 10) (.seq (.reg [o_ 4 (.mv (.k (.bool false)))]) (.ret)) (.skip))) (.seq (.seq (.reg [o_ 5 (.mv (.k (.int .i64 0)))]) (.block 0 (.loop c118b0))) (.seq (.reg [o_ 4 (.mv (.k (.bool true)))]) (.ret))))
def r118:List RR:=[.t 4]
theorem ok118:okFn Go.Proofs.Tryz.prog 78 27 c118 r118 2=true:=by kernel_rfl
def c119:SCode:=
 .seq (.reg [o_ 2 (.box 106 (.t 0)),o_ 3 (.box 106 (.t 1)),o_ 4 (.mv (.k (.bool false)))]) (.seq (.reg [o_ 5 (.fad 106 0 0 (.t 2)),o_ 6 (.ld1 3 (.t 5)),o_ 7 (.fad 106 0 0 (.t 3)),o_ 8 (.ld1 3 (.t 7)),o_ 9 (.bin .eql (.t 6) (.t 8)),m_ 10 9,p_ 11 10 (.fad 106 1 1 (.t 2)),p_ 12 10 (.ld1 102 (.t 11)),p_ 13 10 (.fad 106 1 1 (.t 3)),p_ 14 10 (.ld1 102 (.t 13)),p_ 15 10 (.call (.f 78) [.t 12,.t 14]),o_ 16 (.pick (.t 10) (.t 15) (.k (.bool false))),m_ 17 16,p_ 18 17 (.fad 106 2 2 (.t 2)),p_ 19 17 (.ld1 61 (.t 18)),p_ 20 17 (.fad 106 2 2 (.t 3)),p_ 21 17 (.ld1 61 (.t 20)),p_ 22 17 (.call (.f 80) [.t 19,.t 21]),o_ 23 (.pick (.t 17) (.t 22) (.k (.bool false))),m_ 24 23,p_ 25 24 (.fad 106 3 3 (.t 2)),p_ 26 24 (.ldn 63 3 (.t 25)),p_ 27 24 (.fad 106 3 3 (.t 3)),p_ 28 24 (.ldn 63 3 (.t 27)),p_ 29 24 (.call (.f 49) [.t 26,.t 28]),o_ 30 (.pick (.t 24) (.t 29) (.k (.bool false))),m_ 4 30]) (.ret))
def r119:List RR:=[.t 4]
theorem ok119:okFn Go.Proofs.Tryz.prog 79 31 c119 r119 2=true:=by kernel_rfl
def w86_0:List (List Nat):=[[],[],[],[],[],[],[],[],[],[],[86006],[86007],[86006],[86007]]
def f86_0:List (List Nat):=[[86006,86007],[86006,86007],[86006,86007],[86006,86007],[86006,86007],[86006,86007],[86006,86007],[86006,86007],[86006,86007],[86006,86007],[86007],[86006],[],[]]
def c86b0:SCode:=
 .seq (.seq (.reg [m_ 32 5,o_ 33 (.fad 68 0 0 (.t 2)),o_ 34 (.ld1 65 (.t 33)),o_ 35 (.len 65 (.t 34)),o_ 36 (.bin .lss (.t 32) (.t 35))]) (.cond (.t 36) (.skip) (.exit 0))) (.seq (.block 1 (.seq (.dreg [0,1,0,7,15,0,32,0,224,480,0,0,3103,8191] [o_ 39 (.fad 68 0 0 (.t 2)),o_ 40 (.ld1 65 (.t 39)),m_ 41 5,o_ 42 (.iad 104 6 (.t 40) (.t 41)),o_ 43 (.ldn 104 6 (.t 42)),o_ 44 (.fad 68 0 0 (.t 3)),o_ 45 (.ld1 65 (.t 44)),m_ 46 5,o_ 47 (.iad 104 6 (.t 45) (.t 46)),o_ 48 (.ldn 104 6 (.t 47)),o_ 6 (.alloc 104 [.cap 7 104 [],.v (.int .i64 0),.v (.bool false),.v (.int .i64 0),.v (.int .i64 0),.cap 3 40 []]),o_ 7 (.alloc 104 [.cap 7 104 [],.v (.int .i64 0),.v (.bool false),.v (.int .i64 0),.v (.int .i64 0),.cap 3 40 []]),n_ (.stn 104 6 (.t 6) (.t 43)),n_ (.stn 104 6 (.t 7) (.t 48))]) (.seq (.reg [o_ 49 (.fad 104 0 0 (.t 6)),o_ 50 (.ld1 102 (.t 49)),o_ 51 (.fad 104 0 0 (.t 7)),
 o_ 52 (.ld1 102 (.t 51)),o_ 53 (.call (.f 78) [.t 50,.t 52]),o_ 54 (.not (.t 53)),m_ 55 54,q_ 56 55 (.fad 104 1 1 (.t 6)),q_ 57 55 (.ld1 3 (.t 56)),q_ 58 55 (.fad 104 1 1 (.t 7)),q_ 59 55 (.ld1 3 (.t 58)),q_ 60 55 (.bin .neq (.t 57) (.t 59)),o_ 61 (.pick (.t 55) (.k (.bool true)) (.t 60)),m_ 62 61,q_ 63 62 (.fad 104 2 2 (.t 6)),q_ 64 62 (.ld1 4 (.t 63)),q_ 65 62 (.fad 104 2 2 (.t 7)),q_ 66 62 (.ld1 4 (.t 65)),q_ 67 62 (.beq true 4 (.t 64) (.t 66)),o_ 68 (.pick (.t 62) (.k (.bool true)) (.t 67)),m_ 69 68,q_ 70 69 (.fad 104 3 3 (.t 6)),q_ 71 69 (.ldn 63 3 (.t 70)),q_ 72 69 (.fad 104 3 3 (.t 7)),q_ 73 69 (.ldn 63 3 (.t 72)),q_ 74 69 (.call (.f 49) [.t 71,.t 73]),q_ 75 69 (.not (.t 74)),o_ 76 (.pick (.t 69) (.k (.bool true)) (.t 75))]) (.cond (.t 76) (.seq (.reg [o_ 4 (.mv (.k (.bool false)))]) (.ret)) (.skip))))) (.reg [m_ 37 5,o_ 38 (.bin .add (.t 37) (.k (.int .i64 1))),m_ 5 38]))
def c86b1:SCode:=
 .seq (.seq (.reg [m_ 77 8,o_ 78 (.fad 68 1 1 (.t 2)),o_ 79 (.ld1 66 (.t 78)),o_ 80 (.len 66 (.t 79)),o_ 81 (.bin .lss (.t 77) (.t 80))]) (.cond (.t 81) (.skip) (.exit 2))) (.seq (.block 3 (.seq (.dreg [0,1,0,7,15,0,32,0,224,480,1023,2047] [o_ 84 (.fad 68 1 1 (.t 2)),o_ 85 (.ld1 66 (.t 84)),m_ 86 8,o_ 87 (.iad 106 6 (.t 85) (.t 86)),o_ 88 (.ldn 106 6 (.t 87)),o_ 89 (.fad 68 1 1 (.t 3)),o_ 90 (.ld1 66 (.t 89)),m_ 91 8,o_ 92 (.iad 106 6 (.t 90) (.t 91)),o_ 93 (.ldn 106 6 (.t 92)),o_ 94 (.call (.f 79) [.t 88,.t 93]),o_ 95 (.not (.t 94))]) (.cond (.t 95) (.seq (.reg [o_ 4 (.mv (.k (.bool false)))]) (.ret)) (.skip)))) (.reg [m_ 82 8,o_ 83 (.bin .add (.t 82) (.k (.int .i64 1))),m_ 8 83]))
def c86:SCode:=
 .seq (.reg [o_ 2 (.box 68 (.t 0)),o_ 3 (.box 68 (.t 1)),o_ 4 (.mv (.k (.bool false)))]) (.seq (.seq (.reg [o_ 9 (.fad 68 0 0 (.t 2)),o_ 10 (.ld1 65 (.t 9)),o_ 11 (.len 65 (.t 10)),o_ 12 (.fad 68 0 0 (.t 3)),o_ 13 (.ld1 65 (.t 12)),o_ 14 (.len 65 (.t 13)),o_ 15 (.bin .neq (.t 11) (.t 14)),m_ 16 15,q_ 17 16 (.fad 68 1 1 (.t 2)),q_ 18 16 (.ld1 66 (.t 17)),q_ 19 16 (.len 66 (.t 18)),q_ 20 16 (.fad 68 1 1 (.t 3)),q_ 21 16 (.ld1 66 (.t 20)),q_ 22 16 (.len 66 (.t 21)),q_ 23 16 (.bin .neq (.t 19) (.t 22)),o_ 24 (.pick (.t 16) (.k (.bool true)) (.t 23)),m_ 25 24,q_ 26 25 (.fad 68 2 2 (.t 2)),q_ 27 25 (.ld1 3 (.t 26)),q_ 28 25 (.fad 68 2 2 (.t 3)),q_ 29 25 (.ld1 3 (.t 28)),q_ 30 25 (.bin .neq (.t 27) (.t 29)),o_ 31 (.pick (.t 25) (.k (.bool true)) (.t 30))]) (.cond (.t 31) (.seq (.reg [o_ 4 (.mv (.k (.bool false)))]) (.ret)) (.skip))) (.seq (.seq (.reg [o_ 5 (.mv (.k (.int .i64 0)))])
 (.block 0 (.loop c86b0))) (.seq (.seq (.reg [o_ 8 (.mv (.k (.int .i64 0)))]) (.block 2 (.loop c86b1))) (.seq (.reg [o_ 4 (.mv (.k (.bool true)))]) (.ret)))))
def r86:List RR:=[.t 4]
theorem ok86:okFn Go.Proofs.Tryz.prog 48 96 c86 r86 2=true:=by kernel_rfl
end Go.Abs

namespace Go.Abs
open Go.Proofs
structure A where
 rc:Bool
 typ:T
 dom:List T
 sort:Int
 idx:List T
def A.cells (a:A):List Cell:=[.v (.bool a.rc),.v (.int .i64 a.typ.kind),.v (.int .i64 a.typ.val),.sl 3 40 (a.typ.kids.map T.cells),.sl 3 40 (a.dom.map T.cells),.v (.int .i64 a.sort),.sl 3 40 (a.idx.map T.cells)]
def am (a:A):AV:=.agg a.cells
def ams (l:List A):AV:=.c (.sl 7 104 (l.map A.cells))
structure S where
 idx:List A
 level:Int
 dec:Bool
 decType:T
def S.cells (s:S):List Cell:=[.sl 7 104 (s.idx.map A.cells),.v (.int .i64 s.level),.v (.bool s.dec),.v (.int .i64 s.decType.kind),.v (.int .i64 s.decType.val),.sl 3 40 (s.decType.kids.map T.cells)]
def sms (l:List S):AV:=.c (.sl 6 80 (l.map S.cells))
structure K where
 sort:Int
 args:List A
 idx:List T
 dec:T
def K.cells (s:K):List Cell:=[.v (.int .i64 s.sort),.sl 7 104 (s.args.map A.cells),.sl 3 40 (s.idx.map T.cells),.v (.int .i64 s.dec.kind),.v (.int .i64 s.dec.val),.sl 3 40 (s.dec.kids.map T.cells)]
def km (k:K):AV:=.agg k.cells
def kms (l:List K):AV:=.c (.sl 6 96 (l.map K.cells))
structure B where
 sorts:List S
 cons:List K
 elim:Int
def B.cells (b:B):List Cell:=[.sl 6 80 (b.sorts.map S.cells),.sl 6 96 (b.cons.map K.cells),.v (.int .i64 b.elim)]
def bm (b:B):AV:=.agg b.cells
structure D where
 kind:Int
 typ:T
 body:T
 block:B
def D.cells (d:D):List Cell:=[.v (.int .i64 d.kind),.v (.int .i64 d.typ.kind),.v (.int .i64 d.typ.val),.sl 3 40 (d.typ.kids.map T.cells),.v (.int .i64 d.body.kind),.v (.int .i64 d.body.val),.sl 3 40 (d.body.kids.map T.cells),
 .sl 6 80 (d.block.sorts.map S.cells),.sl 6 96 (d.block.cons.map K.cells),.v (.int .i64 d.block.elim)]
def A.eqb (a b:A):Bool:=(a.rc == b.rc) && T.eqb a.typ b.typ && T.eqbL a.dom b.dom && decide (a.sort=b.sort) && T.eqbL a.idx b.idx
def K.eqb (a b:K):Bool:=decide (a.sort=b.sort) && all2 A.eqb a.args b.args && T.eqbL a.idx b.idx && T.eqb a.dec b.dec
def S.eqb (a b:S):Bool:=all2 A.eqb a.idx b.idx && decide (a.level=b.level) && (a.dec == b.dec) && T.eqb a.decType b.decType
def B.eqb (a b:B):Bool:=decide (a.elim=b.elim) && all2 S.eqb a.sorts b.sorts && all2 K.eqb a.cons b.cons
def D.eqb (a b:D):Bool:=decide (a.kind=b.kind) && T.eqb a.typ b.typ && T.eqb a.body b.body && B.eqb a.block b.block
theorem fn96' (ts us:List T):Fn Tryz.prog 80 [tms ts,tms us] (bb (T.eqbL ts us)):=fn96 fun t _ u=>fn45 t u
theorem fn126 (a b:A):Fn Tryz.prog 111 [am a,am b] (bb (a.eqb b)):=by
 refine fn_of (base:=126000) ok126 rfl fun σ h0 hr=>?_
 have s0:=h0 0
 have s1:=h0 1
 rw [slots0] at s0
 rw [slots1] at s1
 simp only [am,A.cells] at s0 s1
 clear h0 hr
 unfold c126
 simp [s0,s1]
 refine GCall.fn (fun _=>fn45 a.typ b.typ) (by simp [tm,cells_eq]) (by simp) rfl fun _=>?_
 simp [bb]
 refine GCall.fn (fun _=>fn96' a.dom b.dom) (by simp [tms]) (by simp) rfl fun _=>?_
 simp [bb]
 refine GCall.fn (fun _=>fn96' a.idx b.idx) (by simp [tms]) (by simp) rfl fun _=>?_
 simp [bb,r126,A.eqb]
theorem real_ams {l:List A} (h:Real (ams l)):l.length * 104 ≤ 140737488355328:=by simpa [room] using real_sl h
theorem real_sms {l:List S} (h:Real (sms l)):l.length * 80 ≤ 140737488355328:=by simpa [room] using real_sl h
theorem real_kms {l:List K} (h:Real (kms l)):l.length * 96 ≤ 140737488355328:=by simpa [room] using real_sl h
theorem fn118 (ts us:List A):Fn Tryz.prog 78 [ams ts,ams us] (bb (all2 A.eqb ts us)):=by
 refine fn_of (base:=118000) ok118 rfl fun σ h0 hr=>?_
 have s0:=h0 0
 have s1:=h0 1
 rw [slots0] at s0
 rw [slots1] at s1
 have hlen:=real_ams (hr (ams ts) (by simp))
 simp only [ams] at s0 s1
 clear h0 hr
 unfold c118
 by_cases hl:ts.length=us.length
 case neg=>
  have hl':¬ ((ts.length:Int)=(us.length:Int)):=by omega
  simp [s0,s1,hl',r118,bb,all2_len hl]
 case pos=>
  simp [s0,s1,hl]
  refine W_loop (fun k σ=>∃ i:Nat,i + k=ts.length ∧ all2 A.eqb (ts.drop i) (us.drop i)=all2 A.eqb ts us ∧ σ.sl 0=ams ts ∧ σ.sl 1=ams us ∧ σ.sl 5=.c (.v (.int .i64 i))) ts.length ?_ ?_
  ·exact ⟨0,by simp [s0,s1,ams]⟩
  ·rintro k σ ⟨i,hk,hp,q0,q1,q5⟩
   simp only [ams] at q0 q1
   unfold c118b0
   by_cases hi:i < ts.length
   ·obtain ⟨t,ht⟩:=at_of hi
    obtain ⟨u,hu⟩:=at_of (show i < us.length by omega)
    obtain ⟨_,ht'⟩:=getE ht
    obtain ⟨hi2,hu'⟩:=getE hu
    have w1:=wrap_succ (i:=i) (by omega)
    rw [all2_at hl ht hu] at hp
    simp [q0,q1,q5,hi,hi2]
    refine W_dregA ?_
    simp [q0,q1,q5,hi,hi2,ht',hu',A.cells]
    refine CallA.fn (fn126 t u) (by simp [am,A.cells]) (by simp) rfl ?_
    simp [bb]
    refine realC_n ?_
    simp
    constructor
    ·intro hpf
     simp [r118,← hp,hpf]
    ·intro hpt
     rw [hpt,Bool.true_and] at hp
     simp [q5]
     refine ⟨k - 1,by omega,i + 1,by omega,hp,?_⟩
     simp [q0,q1,w1,ams]
   ·simp [q0,q1,q5,hi,r118,bb]
    have:ts.length ≤ i:=by omega
    rw [← hp,List.drop_eq_nil_of_le this,List.drop_eq_nil_of_le (by omega)];rfl
theorem fn119 (a b:K):Fn Tryz.prog 79 [km a,km b] (bb (a.eqb b)):=by
 refine fn_of (base:=119000) ok119 rfl fun σ h0 hr=>?_
 have s0:=h0 0
 have s1:=h0 1
 rw [slots0] at s0
 rw [slots1] at s1
 simp only [km,K.cells] at s0 s1
 clear h0 hr
 unfold c119
 simp [s0,s1]
 refine GCall.fn (fun _=>fn118 a.args b.args) (by simp [ams]) (by simp) rfl fun _=>?_
 simp [bb]
 refine GCall.fn (fun _=>fn96' a.idx b.idx) (by simp [tms]) (by simp) rfl fun _=>?_
 simp [bb]
 refine GCall.fn (fun _=>fn45 a.dec b.dec) (by simp [tm,cells_eq]) (by simp) rfl fun _=>?_
 simp [bb,r119,K.eqb]
theorem real_cell {cs:List Cell} {sz bs:Nat} {es:List (List Cell)} (h:Real (.agg cs)) (hm:.sl sz bs es ∈ cs):es.length * bs ≤ room:=by
 obtain ⟨g,w,v,vs,rfl,hvs⟩:=h
 obtain ⟨i,hi⟩:=List.mem_iff_getElem?.1 hm
 obtain ⟨x,_,hx⟩:=hvs.get i _ hi
 exact real_sl ⟨g,w,x,fun _=>hx⟩
theorem fn86 (a b:B):Fn Tryz.prog 48 [bm a,bm b] (bb (a.eqb b)):=by
 refine fn_of (base:=86000) ok86 rfl fun σ h0 hr=>?_
 have s0:=h0 0
 have s1:=h0 1
 rw [slots0] at s0
 rw [slots1] at s1
 have hl1:=real_cell (hr (bm a) (by simp)) (show .sl 6 80 (a.sorts.map S.cells) ∈ a.cells by simp [B.cells])
 have hl2:=real_cell (hr (bm a) (by simp)) (show .sl 6 96 (a.cons.map K.cells) ∈ a.cells by simp [B.cells])
 simp only [room,List.length_map] at hl1 hl2
 simp only [bm,B.cells] at s0 s1
 clear h0 hr
 unfold c86
 simp [s0,s1]
 refine ⟨fun h=>?_,fun h1 h2 h3=>?_⟩
 ·have he:a.eqb b=false:=by
   rcases h with (h | h) | h
   ·have:a.sorts.length ≠ b.sorts.length:=by omega
    simp [B.eqb,all2_len this]
   ·have:a.cons.length ≠ b.cons.length:=by omega
    simp [B.eqb,all2_len this]
   ·simp [B.eqb,h]
  simp [r86,he,bb]
 ·have l1:a.sorts.length=b.sorts.length:=by omega
  have l2:a.cons.length=b.cons.length:=by omega
  refine W_loop (fun k σ=>∃ i:Nat,i + k=a.sorts.length ∧ all2 S.eqb (a.sorts.drop i) (b.sorts.drop i)=all2 S.eqb a.sorts b.sorts ∧ σ.sl 2=.c (.ref 86002 (σ.tg 86002) 0) ∧ σ.ob 86002=some (.box 68 a.cells) ∧ σ.sl 3=.c (.ref 86003 (σ.tg 86003) 0) ∧ σ.ob 86003=some (.box 68 b.cells) ∧ σ.sl 5=.c (.v (.int .i64 i))) a.sorts.length ?_ ?_
  ·exact ⟨0,by simp [B.cells]⟩
  ·rintro k σ ⟨i,hk,hp,q2,o2,q3,o3,q5⟩
   simp only [B.cells] at o2 o3
   unfold c86b0
   by_cases hi:i < a.sorts.length
   ·obtain ⟨t,ht⟩:=at_of hi
    obtain ⟨u,hu⟩:=at_of (show i < b.sorts.length by omega)
    obtain ⟨_,ht'⟩:=getE ht
    obtain ⟨hi2,hu'⟩:=getE hu
    have w1:=wrap_succ (i:=i) (by omega)
    rw [all2_at l1 ht hu] at hp
    simp [q2,o2,q3,o3,q5,hi,hi2]
    refine W_dregD w86_0 f86_0 (by decide) ?_
    unfold w86_0 f86_0
    simp [q2,o2,q3,o3,q5,hi,hi2,ht',hu',S.cells]
    refine realC_n ?_
    simp [S.cells]
    refine ECall.fn (fn118 t.idx u.idx) (by simp [ams]) (by simp) rfl fun _=>?_
    simp [bb]
    refine GCall.fn (fun _=>fn45 t.decType u.decType) (by simp [tm,cells_eq]) (by simp) rfl fun _=>?_
    simp [bb]
    constructor
    ·intro h
     have ht:t.eqb u=false:=by
      rcases h with ((h | h) | h) | h <;> simp [S.eqb,h]
     have:a.eqb b=false:=by simp [B.eqb,← hp,ht]
     simp [r86,this,bb]
    ·intro e1 e2 e3 e4
     have ht:t.eqb u=true:=by simp [S.eqb,e1,e2,e3,e4]
     rw [ht,Bool.true_and] at hp
     simp [q5]
     refine ⟨k - 1,by omega,i + 1,by omega,hp,?_⟩
     simp [q2,o2,q3,o3,w1,B.cells]
   ·have hS:all2 S.eqb a.sorts b.sorts=true:=by
     rw [← hp,List.drop_eq_nil_of_le (by omega),List.drop_eq_nil_of_le (by omega)];rfl
    simp [q2,o2,q3,o3,q5,hi]
    refine W_loop (fun k σ=>∃ i:Nat,i + k=a.cons.length ∧ all2 K.eqb (a.cons.drop i) (b.cons.drop i)=all2 K.eqb a.cons b.cons ∧ σ.sl 2=.c (.ref 86002 (σ.tg 86002) 0) ∧ σ.ob 86002=some (.box 68 a.cells) ∧ σ.sl 3=.c (.ref 86003 (σ.tg 86003) 0) ∧ σ.ob 86003=some (.box 68 b.cells) ∧ σ.sl 8=.c (.v (.int .i64 i))) a.cons.length ?_ ?_
    ·exact ⟨0,by simp [B.cells,q2,o2,q3,o3]⟩
    ·rintro k σ ⟨i,hk,hp,q2,o2,q3,o3,q5⟩
     simp only [B.cells] at o2 o3
     unfold c86b1
     by_cases hi:i < a.cons.length
     ·obtain ⟨t,ht⟩:=at_of hi
      obtain ⟨u,hu⟩:=at_of (show i < b.cons.length by omega)
      obtain ⟨_,ht'⟩:=getE ht
      obtain ⟨hi2,hu'⟩:=getE hu
      have w1:=wrap_succ (i:=i) (by omega)
      rw [all2_at l2 ht hu] at hp
      simp [q2,o2,q3,o3,q5,hi,hi2]
      refine W_dregA ?_
      simp [q2,o2,q3,o3,q5,hi,hi2,ht',hu',K.cells]
      refine CallA.fn (fn119 t u) (by simp [km,K.cells]) (by simp) rfl ?_
      simp [bb]
      refine realC_n ?_
      simp
      constructor
      ·intro hpf
       have:a.eqb b=false:=by simp [B.eqb,← hp,hpf]
       simp [r86,this,bb]
      ·intro hpt
       rw [hpt,Bool.true_and] at hp
       simp [q5]
       refine ⟨k - 1,by omega,i + 1,by omega,hp,?_⟩
       simp [q2,o2,q3,o3,w1,B.cells]
     ·have hK:all2 K.eqb a.cons b.cons=true:=by
       rw [← hp,List.drop_eq_nil_of_le (by omega),List.drop_eq_nil_of_le (by omega)];rfl
      simp [q2,o2,q3,o3,q5,hi,r86,bb,B.eqb,hS,hK,h3]
theorem eqbL_self (ts:List T):T.eqbL ts ts=true:=by
 rw [eqbL_all2]
 induction ts with
 | nil=>rfl
 | cons t ts ih=>simp [all2,eqb_self,ih]
theorem all2_self {α:Type} {p:α → α → Bool} (h:∀ a,p a a=true) (l:List α):all2 p l l=true:=by
 induction l with
 | nil=>rfl
 | cons t ts ih=>simp [all2,h,ih]
theorem A.eqb_self (a:A):a.eqb a=true:=by simp [A.eqb,Go.Abs.eqb_self,eqbL_self]
theorem K.eqb_self (a:K):a.eqb a=true:=by simp [K.eqb,Go.Abs.eqb_self,eqbL_self,all2_self A.eqb_self]
theorem S.eqb_self (a:S):a.eqb a=true:=by simp [S.eqb,Go.Abs.eqb_self,all2_self A.eqb_self]
theorem B.eqb_self (a:B):a.eqb a=true:=by simp [B.eqb,all2_self S.eqb_self,all2_self K.eqb_self]
theorem D.eqb_self (a:D):a.eqb a=true:=by simp [D.eqb,Go.Abs.eqb_self,B.eqb_self]
end Go.Abs

namespace Go.Abs
def c1085b0:SCode:=
 .seq (.reg [o_ 18 (.bin .lss (.t 17) (.t 16))]) (.seq (.cond (.t 18) (.skip) (.exit 0)) (.seq (.block 1 (.seq (.reg [m_ 19 17,o_ 20 (.iad 104 6 (.t 15) (.t 17)),o_ 21 (.ldn 104 6 (.t 20)),o_ 8 (.alloc 104 [.cap 7 104 [],.v (.int .i64 0),.v (.bool false),.v (.int .i64 0),.v (.int .i64 0),.cap 3 40 []]),m_ 7 19,n_ (.stn 104 6 (.t 8) (.t 21))]) (.seq (.reg [m_ 22 1,m_ 23 7,o_ 24 (.iad 104 6 (.t 22) (.t 23)),o_ 25 (.ldn 104 6 (.t 24)),o_ 9 (.alloc 104 [.cap 7 104 [],.v (.int .i64 0),.v (.bool false),.v (.int .i64 0),.v (.int .i64 0),.cap 3 40 []]),n_ (.stn 104 6 (.t 9) (.t 25))]) (.seq (.reg [m_ 26 2,o_ 27 (.ldn 104 6 (.t 8)),o_ 28 (.ldn 104 6 (.t 9)),o_ 29 (.call (.t 26) [.t 27,.t 28]),o_ 30 (.not (.t 29))]) (.cond (.t 30) (.seq (.reg [o_ 6 (.mv (.k (.bool false)))]) (.ret)) (.skip)))))) (.reg [o_ 31 (.bin .add (.t 17) (.k (.int .i64 1))),m_ 17 31])))
def c1085:SCode:=
 .seq (.reg [o_ 6 (.mv (.k (.bool false)))]) (.seq (.seq (.reg [m_ 10 0,o_ 11 (.len 65 (.t 10)),m_ 12 1,o_ 13 (.len 65 (.t 12)),o_ 14 (.bin .neq (.t 11) (.t 13))]) (.cond (.t 14) (.seq (.reg [o_ 6 (.mv (.k (.bool false)))]) (.ret)) (.skip))) (.seq (.seq (.reg [m_ 15 0,o_ 16 (.len 65 (.t 15)),o_ 17 (.mv (.k (.int .i64 0)))]) (.block 0 (.loop c1085b0))) (.seq (.reg [o_ 6 (.mv (.k (.bool true)))]) (.ret))))
def r1085:List RR:=[.t 6]
theorem ok1085:okFn Go.Proofs.Tryz.prog 85 32 c1085 r1085 3=true:=by kernel_rfl
def c1086:SCode:=
 .seq (.reg [o_ 2 (.box 104 (.t 0)),o_ 3 (.box 104 (.t 1)),o_ 4 (.mv (.k (.bool false)))]) (.seq (.reg [o_ 5 (.fad 104 0 0 (.t 2)),o_ 6 (.ld1 102 (.t 5)),o_ 7 (.fad 104 0 0 (.t 3)),o_ 8 (.ld1 102 (.t 7)),o_ 9 (.call (.f 87) [.t 6,.t 8]),m_ 10 9,p_ 11 10 (.fad 104 1 1 (.t 2)),p_ 12 10 (.ld1 3 (.t 11)),p_ 13 10 (.fad 104 1 1 (.t 3)),p_ 14 10 (.ld1 3 (.t 13)),p_ 15 10 (.bin .eql (.t 12) (.t 14)),o_ 16 (.pick (.t 10) (.t 15) (.k (.bool false))),m_ 17 16,p_ 18 17 (.fad 104 2 2 (.t 2)),p_ 19 17 (.ld1 4 (.t 18)),p_ 20 17 (.fad 104 2 2 (.t 3)),p_ 21 17 (.ld1 4 (.t 20)),p_ 22 17 (.beq false 4 (.t 19) (.t 21)),o_ 23 (.pick (.t 17) (.t 22) (.k (.bool false))),m_ 24 23,p_ 25 24 (.fad 104 3 3 (.t 2)),p_ 26 24 (.ldn 63 3 (.t 25)),p_ 27 24 (.fad 104 3 3 (.t 3)),p_ 28 24 (.ldn 63 3 (.t 27)),p_ 29 24 (.call (.f 88) [.t 26,.t 28]),o_ 30 (.pick (.t 24) (.t 29) (.k (.bool false))),m_ 4 30]) (.ret))
def r1086:List RR:=[.t 4]
theorem ok1086:okFn Go.Proofs.Tryz.prog 86 31 c1086 r1086 2=true:=by kernel_rfl
def c1087:SCode:=
 .seq (.reg [o_ 4 (.mv (.k (.bool false)))]) (.seq (.reg [m_ 5 0,m_ 6 1,o_ 7 (.call (.f 118) [.t 5,.t 6,.f 119]),m_ 4 7]) (.ret))
def r1087:List RR:=[.t 4]
theorem ok1087:okFn Go.Proofs.Tryz.prog 87 8 c1087 r1087 2=true:=by kernel_rfl
def c1089b0:SCode:=
 .seq (.reg [o_ 18 (.bin .lss (.t 17) (.t 16))]) (.seq (.cond (.t 18) (.skip) (.exit 0)) (.seq (.block 1 (.seq (.reg [m_ 19 17,o_ 20 (.iad 106 6 (.t 15) (.t 17)),o_ 21 (.ldn 106 6 (.t 20)),o_ 8 (.alloc 106 [.v (.int .i64 0),.cap 7 104 [],.cap 3 40 [],.v (.int .i64 0),.v (.int .i64 0),.cap 3 40 []]),m_ 7 19,n_ (.stn 106 6 (.t 8) (.t 21))]) (.seq (.reg [m_ 22 1,m_ 23 7,o_ 24 (.iad 106 6 (.t 22) (.t 23)),o_ 25 (.ldn 106 6 (.t 24)),o_ 9 (.alloc 106 [.v (.int .i64 0),.cap 7 104 [],.cap 3 40 [],.v (.int .i64 0),.v (.int .i64 0),.cap 3 40 []]),n_ (.stn 106 6 (.t 9) (.t 25))]) (.seq (.reg [m_ 26 2,o_ 27 (.ldn 106 6 (.t 8)),o_ 28 (.ldn 106 6 (.t 9)),o_ 29 (.call (.t 26) [.t 27,.t 28]),o_ 30 (.not (.t 29))]) (.cond (.t 30) (.seq (.reg [o_ 6 (.mv (.k (.bool false)))]) (.ret)) (.skip)))))) (.reg [o_ 31 (.bin .add (.t 17) (.k (.int .i64 1))),m_ 17 31])))
def c1089:SCode:=
 .seq (.reg [o_ 6 (.mv (.k (.bool false)))]) (.seq (.seq (.reg [m_ 10 0,o_ 11 (.len 66 (.t 10)),m_ 12 1,o_ 13 (.len 66 (.t 12)),o_ 14 (.bin .neq (.t 11) (.t 13))]) (.cond (.t 14) (.seq (.reg [o_ 6 (.mv (.k (.bool false)))]) (.ret)) (.skip))) (.seq (.seq (.reg [m_ 15 0,o_ 16 (.len 66 (.t 15)),o_ 17 (.mv (.k (.int .i64 0)))]) (.block 0 (.loop c1089b0))) (.seq (.reg [o_ 6 (.mv (.k (.bool true)))]) (.ret))))
def r1089:List RR:=[.t 6]
theorem ok1089:okFn Go.Proofs.Tryz.prog 89 32 c1089 r1089 3=true:=by kernel_rfl
def c1090:SCode:=
 .seq (.reg [o_ 2 (.box 106 (.t 0)),o_ 3 (.box 106 (.t 1)),o_ 4 (.mv (.k (.bool false)))]) (.seq (.reg [o_ 5 (.fad 106 0 0 (.t 2)),o_ 6 (.ld1 3 (.t 5)),o_ 7 (.fad 106 0 0 (.t 3)),o_ 8 (.ld1 3 (.t 7)),o_ 9 (.bin .eql (.t 6) (.t 8)),m_ 10 9,p_ 11 10 (.fad 106 1 1 (.t 2)),p_ 12 10 (.ld1 102 (.t 11)),p_ 13 10 (.fad 106 1 1 (.t 3)),p_ 14 10 (.ld1 102 (.t 13)),p_ 15 10 (.call (.f 87) [.t 12,.t 14]),o_ 16 (.pick (.t 10) (.t 15) (.k (.bool false))),m_ 17 16,p_ 18 17 (.fad 106 2 2 (.t 2)),p_ 19 17 (.ld1 61 (.t 18)),p_ 20 17 (.fad 106 2 2 (.t 3)),p_ 21 17 (.ld1 61 (.t 20)),p_ 22 17 (.call (.f 91) [.t 19,.t 21]),o_ 23 (.pick (.t 17) (.t 22) (.k (.bool false))),m_ 24 23,p_ 25 24 (.fad 106 3 3 (.t 2)),p_ 26 24 (.ldn 63 3 (.t 25)),p_ 27 24 (.fad 106 3 3 (.t 3)),p_ 28 24 (.ldn 63 3 (.t 27)),p_ 29 24 (.call (.f 88) [.t 26,.t 28]),o_ 30 (.pick (.t 24) (.t 29) (.k (.bool false))),m_ 4 30]) (.ret))
def r1090:List RR:=[.t 4]
theorem ok1090:okFn Go.Proofs.Tryz.prog 90 31 c1090 r1090 2=true:=by kernel_rfl
def c1091:SCode:=
 .seq (.reg [o_ 4 (.mv (.k (.bool false)))]) (.seq (.reg [m_ 5 0,m_ 6 1,o_ 7 (.call (.f 120) [.t 5,.t 6,.f 88]),m_ 4 7]) (.ret))
def r1091:List RR:=[.t 4]
theorem ok1091:okFn Go.Proofs.Tryz.prog 91 8 c1091 r1091 2=true:=by kernel_rfl
def c1118b0:SCode:=
 .seq (.reg [o_ 18 (.bin .lss (.t 17) (.t 16))]) (.seq (.cond (.t 18) (.skip) (.exit 0)) (.seq (.block 1 (.seq (.reg [m_ 19 17,o_ 20 (.iad 126 7 (.t 15) (.t 17)),o_ 21 (.ldn 126 7 (.t 20)),o_ 8 (.alloc 126 [.v (.bool false),.v (.int .i64 0),.v (.int .i64 0),.cap 3 40 [],.cap 3 40 [],.v (.int .i64 0),.cap 3 40 []]),m_ 7 19,n_ (.stn 126 7 (.t 8) (.t 21))]) (.seq (.reg [m_ 22 1,m_ 23 7,o_ 24 (.iad 126 7 (.t 22) (.t 23)),o_ 25 (.ldn 126 7 (.t 24)),o_ 9 (.alloc 126 [.v (.bool false),.v (.int .i64 0),.v (.int .i64 0),.cap 3 40 [],.cap 3 40 [],.v (.int .i64 0),.cap 3 40 []]),n_ (.stn 126 7 (.t 9) (.t 25))]) (.seq (.reg [m_ 26 2,o_ 27 (.ldn 126 7 (.t 8)),o_ 28 (.ldn 126 7 (.t 9)),o_ 29 (.call (.t 26) [.t 27,.t 28]),o_ 30 (.not (.t 29))]) (.cond (.t 30) (.seq (.reg [o_ 6 (.mv (.k (.bool false)))]) (.ret)) (.skip)))))) (.reg [o_ 31 (.bin .add (.t 17) (.k (.int .i64 1))),m_ 17 31])))
def c1118:SCode:=
 .seq (.reg [o_ 6 (.mv (.k (.bool false)))]) (.seq (.seq (.reg [m_ 10 0,o_ 11 (.len 102 (.t 10)),m_ 12 1,o_ 13 (.len 102 (.t 12)),o_ 14 (.bin .neq (.t 11) (.t 13))]) (.cond (.t 14) (.seq (.reg [o_ 6 (.mv (.k (.bool false)))]) (.ret)) (.skip))) (.seq (.seq (.reg [m_ 15 0,o_ 16 (.len 102 (.t 15)),o_ 17 (.mv (.k (.int .i64 0)))]) (.block 0 (.loop c1118b0))) (.seq (.reg [o_ 6 (.mv (.k (.bool true)))]) (.ret))))
def r1118:List RR:=[.t 6]
theorem ok1118:okFn Go.Proofs.Tryz.prog 118 32 c1118 r1118 3=true:=by kernel_rfl
def c1119:SCode:=
 .seq (.reg [o_ 2 (.box 126 (.t 0)),o_ 3 (.box 126 (.t 1)),o_ 4 (.mv (.k (.bool false)))]) (.seq (.reg [o_ 5 (.fad 126 0 0 (.t 2)),o_ 6 (.ld1 4 (.t 5)),o_ 7 (.fad 126 0 0 (.t 3)),o_ 8 (.ld1 4 (.t 7)),o_ 9 (.beq false 4 (.t 6) (.t 8)),m_ 10 9,p_ 11 10 (.fad 126 1 1 (.t 2)),p_ 12 10 (.ldn 63 3 (.t 11)),p_ 13 10 (.fad 126 1 1 (.t 3)),p_ 14 10 (.ldn 63 3 (.t 13)),p_ 15 10 (.call (.f 88) [.t 12,.t 14]),o_ 16 (.pick (.t 10) (.t 15) (.k (.bool false))),m_ 17 16,p_ 18 17 (.fad 126 2 4 (.t 2)),p_ 19 17 (.ld1 61 (.t 18)),p_ 20 17 (.fad 126 2 4 (.t 3)),p_ 21 17 (.ld1 61 (.t 20)),p_ 22 17 (.call (.f 91) [.t 19,.t 21]),o_ 23 (.pick (.t 17) (.t 22) (.k (.bool false))),m_ 24 23,p_ 25 24 (.fad 126 3 5 (.t 2)),p_ 26 24 (.ld1 3 (.t 25)),p_ 27 24 (.fad 126 3 5 (.t 3)),p_ 28 24 (.ld1 3 (.t 27)),p_ 29 24 (.bin .eql (.t 26) (.t 28)),o_ 30 (.pick (.t 24) (.t 29) (.k (.bool false))),m_ 31 30,
 p_ 32 31 (.fad 126 4 6 (.t 2)),p_ 33 31 (.ld1 61 (.t 32)),p_ 34 31 (.fad 126 4 6 (.t 3)),p_ 35 31 (.ld1 61 (.t 34)),p_ 36 31 (.call (.f 91) [.t 33,.t 35]),o_ 37 (.pick (.t 31) (.t 36) (.k (.bool false))),m_ 4 37]) (.ret))
def r1119:List RR:=[.t 4]
theorem ok1119:okFn Go.Proofs.Tryz.prog 119 38 c1119 r1119 2=true:=by kernel_rfl
def c1053:SCode:=
 .seq (.reg [o_ 2 (.box 68 (.t 0)),o_ 3 (.box 68 (.t 1)),o_ 4 (.mv (.k (.bool false)))]) (.seq (.reg [o_ 6 (.fad 68 0 0 (.t 2)),o_ 7 (.ld1 65 (.t 6)),o_ 8 (.fad 68 0 0 (.t 3)),o_ 9 (.ld1 65 (.t 8)),o_ 10 (.call (.f 85) [.t 7,.t 9,.f 86]),m_ 5 10]) (.seq (.reg [m_ 11 5,m_ 12 11,p_ 13 12 (.fad 68 2 2 (.t 2)),p_ 14 12 (.ld1 3 (.t 13)),p_ 15 12 (.fad 68 2 2 (.t 3)),p_ 16 12 (.ld1 3 (.t 15)),p_ 17 12 (.bin .eql (.t 14) (.t 16)),o_ 18 (.pick (.t 12) (.t 17) (.k (.bool false))),m_ 19 18,p_ 20 19 (.fad 68 1 1 (.t 2)),p_ 21 19 (.ld1 66 (.t 20)),p_ 22 19 (.fad 68 1 1 (.t 3)),p_ 23 19 (.ld1 66 (.t 22)),p_ 24 19 (.call (.f 89) [.t 21,.t 23,.f 90]),o_ 25 (.pick (.t 19) (.t 24) (.k (.bool false))),m_ 4 25]) (.ret)))
def r1053:List RR:=[.t 4]
theorem ok1053:okFn Go.Proofs.Tryz.prog 53 26 c1053 r1053 2=true:=by kernel_rfl
end Go.Abs

namespace Go.Abs
open Go.Proofs
def sm (s:S):AV:=.agg s.cells
theorem fn1118 {f:Nat} {p:A → A → Bool} {ts us:List A} (hf:∀ t,t ∈ ts → ∀ u,Fn Tryz.prog f [am t,am u] (bb (p t u))):Fn Tryz.prog 118 [ams ts,ams us,.c (.clo f [] [])] (bb (all2 p ts us)):=by
 refine fn_of (base:=1118000) ok1118 rfl fun σ h0 hr=>?_
 have s0:=h0 0
 have s1:=h0 1
 have s2:=h0 2
 rw [slots0] at s0
 rw [slots1] at s1
 rw [slots2] at s2
 have hlen:=real_ams (hr (ams ts) (by simp))
 clear h0 hr
 unfold c1118
 by_cases hl:ts.length=us.length
 case neg=>
  have hl':¬ ((ts.length:Int)=(us.length:Int)):=by omega
  simp [s0,s1,s2,ams,hl',r1118,bb,all2_len hl]
 case pos=>
  simp [s0,s1,s2,ams,hl]
  refine W_loop (fun k σ=>∃ i:Nat,i + k=ts.length ∧ all2 p (ts.drop i) (us.drop i)=all2 p ts us ∧ σ.sl 0=ams ts ∧ σ.sl 1=ams us ∧ σ.sl 2=.c (.clo f [] []) ∧ σ.sl 15=ams ts ∧ σ.sl 16=ib ts.length ∧ σ.sl 17=ib i) ts.length ?_ ?_
  ·exact ⟨0,by simp [s0,s1,s2,ams,ib,hl]⟩
  ·rintro k σ ⟨i,hk,hp,q0,q1,q2,q15,q16,q17⟩
   unfold c1118b0
   simp only [ams,ib] at q0 q1 q2 q15 q16 q17
   by_cases hi:i < ts.length
   ·obtain ⟨t,ht⟩:∃ t,ts[i]? = some t:=⟨ts[i],by simp [hi]⟩
    obtain ⟨u,hu⟩:∃ u,us[i]? = some u:=⟨us[i]'(by omega),by simp [show i < us.length by omega]⟩
    have hi2:i < us.length:=by omega
    have e1:=(List.getElem?_eq_some_iff.1 ht).2
    have e2:=(List.getElem?_eq_some_iff.1 hu).2
    have w1:IntKind.wrap .i64 ((i:Int) + 1)=((i + 1:Nat):Int):=by rw [wrap_id (by omega) (by omega)];rfl
    simp [q0,q1,q2,q15,q16,q17,hi,hi2,e1,e2,A.cells]
    refine ECall.fn (hf t (List.mem_of_getElem? ht) u) (by simp [am,A.cells]) (by simp) rfl fun _=>?_
    simp [bb]
    rw [all2_at hl ht hu] at hp
    constructor
    ·intro hpf
     simp [r1118,← hp,hpf]
    ·intro hpt
     simp [q17,w1]
     refine ⟨k - 1,by omega,i + 1,by omega,?_,?_⟩
     ·rw [← hp,hpt];simp
     ·simp [q0,q1,q2,q15,q16,ams,ib,w1]
   ·simp [q0,q1,q2,q15,q16,q17,hi,r1118,bb]
    have:ts.length ≤ i:=by omega
    rw [← hp,List.drop_eq_nil_of_le this,List.drop_eq_nil_of_le (by omega)];rfl
theorem fn1085 {f:Nat} {p:S → S → Bool} {ts us:List S} (hf:∀ t,t ∈ ts → ∀ u,Fn Tryz.prog f [sm t,sm u] (bb (p t u))):Fn Tryz.prog 85 [sms ts,sms us,.c (.clo f [] [])] (bb (all2 p ts us)):=by
 refine fn_of (base:=1085000) ok1085 rfl fun σ h0 hr=>?_
 have s0:=h0 0
 have s1:=h0 1
 have s2:=h0 2
 rw [slots0] at s0
 rw [slots1] at s1
 rw [slots2] at s2
 have hlen:=real_sms (hr (sms ts) (by simp))
 clear h0 hr
 unfold c1085
 by_cases hl:ts.length=us.length
 case neg=>
  have hl':¬ ((ts.length:Int)=(us.length:Int)):=by omega
  simp [s0,s1,s2,sms,hl',r1085,bb,all2_len hl]
 case pos=>
  simp [s0,s1,s2,sms,hl]
  refine W_loop (fun k σ=>∃ i:Nat,i + k=ts.length ∧ all2 p (ts.drop i) (us.drop i)=all2 p ts us ∧ σ.sl 0=sms ts ∧ σ.sl 1=sms us ∧ σ.sl 2=.c (.clo f [] []) ∧ σ.sl 15=sms ts ∧ σ.sl 16=ib ts.length ∧ σ.sl 17=ib i) ts.length ?_ ?_
  ·exact ⟨0,by simp [s0,s1,s2,sms,ib,hl]⟩
  ·rintro k σ ⟨i,hk,hp,q0,q1,q2,q15,q16,q17⟩
   unfold c1085b0
   simp only [sms,ib] at q0 q1 q2 q15 q16 q17
   by_cases hi:i < ts.length
   ·obtain ⟨t,ht⟩:∃ t,ts[i]? = some t:=⟨ts[i],by simp [hi]⟩
    obtain ⟨u,hu⟩:∃ u,us[i]? = some u:=⟨us[i]'(by omega),by simp [show i < us.length by omega]⟩
    have hi2:i < us.length:=by omega
    have e1:=(List.getElem?_eq_some_iff.1 ht).2
    have e2:=(List.getElem?_eq_some_iff.1 hu).2
    have w1:IntKind.wrap .i64 ((i:Int) + 1)=((i + 1:Nat):Int):=by rw [wrap_id (by omega) (by omega)];rfl
    simp [q0,q1,q2,q15,q16,q17,hi,hi2,e1,e2,S.cells]
    refine ECall.fn (hf t (List.mem_of_getElem? ht) u) (by simp [sm,S.cells]) (by simp) rfl fun _=>?_
    simp [bb]
    rw [all2_at hl ht hu] at hp
    constructor
    ·intro hpf
     simp [r1085,← hp,hpf]
    ·intro hpt
     simp [q17,w1]
     refine ⟨k - 1,by omega,i + 1,by omega,?_,?_⟩
     ·rw [← hp,hpt];simp
     ·simp [q0,q1,q2,q15,q16,sms,ib,w1]
   ·simp [q0,q1,q2,q15,q16,q17,hi,r1085,bb]
    have:ts.length ≤ i:=by omega
    rw [← hp,List.drop_eq_nil_of_le this,List.drop_eq_nil_of_le (by omega)];rfl
theorem fn1089 {f:Nat} {p:K → K → Bool} {ts us:List K} (hf:∀ t,t ∈ ts → ∀ u,Fn Tryz.prog f [km t,km u] (bb (p t u))):Fn Tryz.prog 89 [kms ts,kms us,.c (.clo f [] [])] (bb (all2 p ts us)):=by
 refine fn_of (base:=1089000) ok1089 rfl fun σ h0 hr=>?_
 have s0:=h0 0
 have s1:=h0 1
 have s2:=h0 2
 rw [slots0] at s0
 rw [slots1] at s1
 rw [slots2] at s2
 have hlen:=real_kms (hr (kms ts) (by simp))
 clear h0 hr
 unfold c1089
 by_cases hl:ts.length=us.length
 case neg=>
  have hl':¬ ((ts.length:Int)=(us.length:Int)):=by omega
  simp [s0,s1,s2,kms,hl',r1089,bb,all2_len hl]
 case pos=>
  simp [s0,s1,s2,kms,hl]
  refine W_loop (fun k σ=>∃ i:Nat,i + k=ts.length ∧ all2 p (ts.drop i) (us.drop i)=all2 p ts us ∧ σ.sl 0=kms ts ∧ σ.sl 1=kms us ∧ σ.sl 2=.c (.clo f [] []) ∧ σ.sl 15=kms ts ∧ σ.sl 16=ib ts.length ∧ σ.sl 17=ib i) ts.length ?_ ?_
  ·exact ⟨0,by simp [s0,s1,s2,kms,ib,hl]⟩
  ·rintro k σ ⟨i,hk,hp,q0,q1,q2,q15,q16,q17⟩
   unfold c1089b0
   simp only [kms,ib] at q0 q1 q2 q15 q16 q17
   by_cases hi:i < ts.length
   ·obtain ⟨t,ht⟩:∃ t,ts[i]? = some t:=⟨ts[i],by simp [hi]⟩
    obtain ⟨u,hu⟩:∃ u,us[i]? = some u:=⟨us[i]'(by omega),by simp [show i < us.length by omega]⟩
    have hi2:i < us.length:=by omega
    have e1:=(List.getElem?_eq_some_iff.1 ht).2
    have e2:=(List.getElem?_eq_some_iff.1 hu).2
    have w1:IntKind.wrap .i64 ((i:Int) + 1)=((i + 1:Nat):Int):=by rw [wrap_id (by omega) (by omega)];rfl
    simp [q0,q1,q2,q15,q16,q17,hi,hi2,e1,e2,K.cells]
    refine ECall.fn (hf t (List.mem_of_getElem? ht) u) (by simp [km,K.cells]) (by simp) rfl fun _=>?_
    simp [bb]
    rw [all2_at hl ht hu] at hp
    constructor
    ·intro hpf
     simp [r1089,← hp,hpf]
    ·intro hpt
     simp [q17,w1]
     refine ⟨k - 1,by omega,i + 1,by omega,?_,?_⟩
     ·rw [← hp,hpt];simp
     ·simp [q0,q1,q2,q15,q16,kms,ib,w1]
   ·simp [q0,q1,q2,q15,q16,q17,hi,r1089,bb]
    have:ts.length ≤ i:=by omega
    rw [← hp,List.drop_eq_nil_of_le this,List.drop_eq_nil_of_le (by omega)];rfl
theorem fn1091 (ts us:List T):Fn Tryz.prog 91 [tms ts,tms us] (bb (T.eqbL ts us)):=by
 refine fn_of (base:=1091000) ok1091 rfl fun σ h0 hr=>?_
 have s0:σ.sl 0=tms ts:=h0 0
 have s1:σ.sl 1=tms us:=h0 1
 simp only [tms] at s0 s1
 clear h0 hr
 unfold c1091
 simp [s0,s1]
 refine ECall.fn (fn63 (p:=T.eqb) (ts:=ts) (us:=us) fun t _ u=>fn18 t u) (by simp [tms]) (by simp) rfl fun _=>?_
 simp [r1091,bb,eqbL_all2]
theorem fn1119 (a b:A):Fn Tryz.prog 119 [am a,am b] (bb (a.eqb b)):=by
 refine fn_of (base:=1119000) ok1119 rfl fun σ h0 hr=>?_
 have s0:σ.sl 0=am a:=h0 0
 have s1:σ.sl 1=am b:=h0 1
 simp only [am,A.cells] at s0 s1
 clear h0 hr
 unfold c1119
 simp [s0,s1]
 refine GCall.fn (fun _=>fn18 a.typ b.typ) (by simp [tm,cells_eq]) (by simp) rfl fun _=>?_
 simp [bb]
 refine GCall.fn (fun _=>fn1091 a.dom b.dom) (by simp [tms]) (by simp) rfl fun _=>?_
 simp [bb]
 refine GCall.fn (fun _=>fn1091 a.idx b.idx) (by simp [tms]) (by simp) rfl fun _=>?_
 simp [bb,r1119,A.eqb]
theorem fn1087 (ts us:List A):Fn Tryz.prog 87 [ams ts,ams us] (bb (all2 A.eqb ts us)):=by
 refine fn_of (base:=1087000) ok1087 rfl fun σ h0 hr=>?_
 have s0:σ.sl 0=ams ts:=h0 0
 have s1:σ.sl 1=ams us:=h0 1
 simp only [ams] at s0 s1
 clear h0 hr
 unfold c1087
 simp [s0,s1]
 refine ECall.fn (fn1118 (p:=A.eqb) (ts:=ts) (us:=us) fun t _ u=>fn1119 t u) (by simp [ams]) (by simp) rfl fun _=>?_
 simp [r1087,bb]
theorem fn1086 (a b:S):Fn Tryz.prog 86 [sm a,sm b] (bb (a.eqb b)):=by
 refine fn_of (base:=1086000) ok1086 rfl fun σ h0 hr=>?_
 have s0:σ.sl 0=sm a:=h0 0
 have s1:σ.sl 1=sm b:=h0 1
 simp only [sm,S.cells] at s0 s1
 clear h0 hr
 unfold c1086
 simp [s0,s1]
 refine ECall.fn (fn1087 a.idx b.idx) (by simp [ams]) (by simp) rfl fun _=>?_
 simp [bb]
 refine GCall.fn (fun _=>fn18 a.decType b.decType) (by simp [tm,cells_eq]) (by simp) rfl fun _=>?_
 simp [bb,r1086,S.eqb]
theorem fn1090 (a b:K):Fn Tryz.prog 90 [km a,km b] (bb (a.eqb b)):=by
 refine fn_of (base:=1090000) ok1090 rfl fun σ h0 hr=>?_
 have s0:σ.sl 0=km a:=h0 0
 have s1:σ.sl 1=km b:=h0 1
 simp only [km,K.cells] at s0 s1
 clear h0 hr
 unfold c1090
 simp [s0,s1]
 refine GCall.fn (fun _=>fn1087 a.args b.args) (by simp [ams]) (by simp) rfl fun _=>?_
 simp [bb]
 refine GCall.fn (fun _=>fn1091 a.idx b.idx) (by simp [tms]) (by simp) rfl fun _=>?_
 simp [bb]
 refine GCall.fn (fun _=>fn18 a.dec b.dec) (by simp [tm,cells_eq]) (by simp) rfl fun _=>?_
 simp [bb,r1090,K.eqb]
theorem fn1053 (a b:B):Fn Tryz.prog 53 [bm a,bm b] (bb (a.eqb b)):=by
 refine fn_of (base:=1053000) ok1053 rfl fun σ h0 hr=>?_
 have s0:σ.sl 0=bm a:=h0 0
 have s1:σ.sl 1=bm b:=h0 1
 simp only [bm,B.cells] at s0 s1
 clear h0 hr
 unfold c1053
 simp [s0,s1]
 refine ECall.fn (fn1085 (p:=S.eqb) (ts:=a.sorts) (us:=b.sorts) fun t _ u=>fn1086 t u) (by simp [sms]) (by simp) rfl fun _=>?_
 simp [bb]
 refine GCall.fn (fun _=>fn1089 (p:=K.eqb) (ts:=a.cons) (us:=b.cons) fun t _ u=>fn1090 t u) (by simp [kms]) (by simp) rfl fun _=>?_
 simp [bb,r1053,B.eqb]
 try ac_rfl
end Go.Abs

namespace Go.Abs
def c1094:SCode:=
 .seq (.reg [o_ 1 (.box 68 (.t 0)),o_ 2 (.mv (.k (.int .i64 0)))]) (.seq (.dreg [0,1,3,7,0,0,32,96,240,511,0,1024,3072,8191,16383] [o_ 3 (.fad 68 0 0 (.t 1)),o_ 4 (.ld1 65 (.t 3)),o_ 5 (.len 65 (.t 4)),o_ 6 (.bin .mul (.k (.int .i64 2)) (.t 5)),o_ 7 (.ldn 68 3 (.t 1)),o_ 8 (.fad 68 0 0 (.t 1)),o_ 9 (.ld1 65 (.t 8)),o_ 10 (.len 65 (.t 9)),o_ 11 (.call (.f 127) [.t 7,.t 10]),o_ 12 (.bin .add (.t 6) (.t 11)),o_ 13 (.fad 68 1 1 (.t 1)),o_ 14 (.ld1 66 (.t 13)),o_ 15 (.len 66 (.t 14)),o_ 16 (.bin .add (.t 12) (.t 15)),m_ 2 16]) (.ret))
def r1094:List RR:=[.t 2]
theorem ok1094:okFn Go.Proofs.Tryz.prog 94 17 c1094 r1094 1=true:=by kernel_rfl
def c1127b0:SCode:=
 .seq (.reg [o_ 14 (.bin .lss (.t 13) (.t 12))]) (.seq (.cond (.t 14) (.skip) (.exit 0)) (.seq (.block 1 (.seq (.reg [o_ 15 (.iad 104 6 (.t 11) (.t 13)),o_ 16 (.ldn 104 6 (.t 15)),o_ 7 (.alloc 104 [.cap 7 104 [],.v (.int .i64 0),.v (.bool false),.v (.int .i64 0),.v (.int .i64 0),.cap 3 40 []]),n_ (.stn 104 6 (.t 7) (.t 16))]) (.seq (.reg [o_ 17 (.fad 104 2 2 (.t 7)),o_ 18 (.ld1 4 (.t 17))]) (.cond (.t 18) (.reg [m_ 19 5,o_ 20 (.bin .add (.t 19) (.k (.int .i64 1))),m_ 5 20]) (.skip))))) (.reg [o_ 21 (.bin .add (.t 13) (.k (.int .i64 1))),m_ 13 21])))
def c1127:SCode:=
 .seq (.reg [o_ 2 (.box 68 (.t 0)),o_ 4 (.mv (.k (.int .i64 0)))]) (.seq (.reg [o_ 5 (.mv (.k (.int .i64 0)))]) (.seq (.seq (.reg [o_ 8 (.fad 68 0 0 (.t 2)),o_ 9 (.ld1 65 (.t 8)),m_ 10 1,o_ 11 (.slc 104 6 80 (.t 9) none (some (.t 10)) none),o_ 12 (.len 65 (.t 11)),o_ 13 (.mv (.k (.int .i64 0)))]) (.block 0 (.loop c1127b0))) (.seq (.reg [m_ 22 5,m_ 4 22]) (.ret))))
def r1127:List RR:=[.t 4]
theorem ok1127:okFn Go.Proofs.Tryz.prog 127 23 c1127 r1127 2=true:=by kernel_rfl
def c1155:SCode:=
 .seq (.reg [o_ 8 (.mv (.k (.int .i64 0)))]) (.seq (.seq (.reg [m_ 9 0,o_ 10 (.bin .lss (.t 9) (.k (.int .i64 0))),m_ 11 10,qm_ 12 11 0,q_ 13 11 (.bin .gtr (.t 12) (.k (.int .i64 65535))),o_ 14 (.pick (.t 11) (.k (.bool true)) (.t 13)),m_ 15 14,qm_ 16 15 2,q_ 17 15 (.bin .lss (.t 16) (.k (.int .i64 0))),o_ 18 (.pick (.t 15) (.k (.bool true)) (.t 17)),m_ 19 18,qm_ 20 19 2,qm_ 21 19 3,q_ 22 19 (.bin .geq (.t 20) (.t 21)),o_ 23 (.pick (.t 19) (.k (.bool true)) (.t 22))]) (.cond (.t 23) (.seq (.reg [o_ 8 (.mv (.k (.int .i64 (-1))))]) (.ret)) (.skip))) (.seq (.reg [m_ 24 0,m_ 25 1,o_ 26 (.bin .add (.t 24) (.t 25)),m_ 27 2,o_ 28 (.bin .add (.t 26) (.t 27)),m_ 8 28]) (.ret)))
def r1155:List RR:=[.t 8]
theorem ok1155:okFn Go.Proofs.Tryz.prog 155 29 c1155 r1155 4=true:=by kernel_rfl
def c1114:SCode:=
 .seq (.reg [o_ 3 (.box 68 (.t 0)),o_ 6 (.mv (.k (.int .i64 0)))]) (.seq (.reg [m_ 7 1,m_ 8 2,o_ 9 (.fad 68 0 0 (.t 3)),o_ 10 (.ld1 65 (.t 9)),o_ 11 (.len 65 (.t 10)),o_ 12 (.call (.f 155) [.t 7,.k (.int .i64 0),.t 8,.t 11]),m_ 6 12]) (.ret))
def r1114:List RR:=[.t 6]
theorem ok1114:okFn Go.Proofs.Tryz.prog 114 13 c1114 r1114 3=true:=by kernel_rfl
def c1115:SCode:=
 .seq (.reg [o_ 3 (.box 68 (.t 0)),o_ 6 (.mv (.k (.int .i64 0)))]) (.seq (.seq (.reg [m_ 7 2,o_ 8 (.bin .lss (.t 7) (.k (.int .i64 0))),m_ 9 8,qm_ 10 9 2,q_ 11 9 (.fad 68 0 0 (.t 3)),q_ 12 9 (.ld1 65 (.t 11)),q_ 13 9 (.len 65 (.t 12)),q_ 14 9 (.bin .geq (.t 10) (.t 13)),o_ 15 (.pick (.t 9) (.k (.bool true)) (.t 14)),m_ 16 15,q_ 17 16 (.fad 68 0 0 (.t 3)),q_ 18 16 (.ld1 65 (.t 17)),qm_ 19 16 2,q_ 20 16 (.iad 104 6 (.t 18) (.t 19)),q_ 21 16 (.fad 104 2 2 (.t 20)),q_ 22 16 (.ld1 4 (.t 21)),q_ 23 16 (.not (.t 22)),o_ 24 (.pick (.t 16) (.k (.bool true)) (.t 23))]) (.cond (.t 24) (.seq (.reg [o_ 6 (.mv (.k (.int .i64 (-1))))]) (.ret)) (.skip))) (.seq (.dreg [0,0,2,6,0,0,48,0,128,384,1023,2047] [m_ 25 1,o_ 26 (.fad 68 0 0 (.t 3)),o_ 27 (.ld1 65 (.t 26)),o_ 28 (.len 65 (.t 27)),o_ 29 (.ldn 68 3 (.t 3)),m_ 30 2,o_ 31 (.call (.f 127) [.t 29,.t 30]),o_ 32 (.fad 68 0 0 (.t 3)),
 o_ 33 (.ld1 65 (.t 32)),o_ 34 (.len 65 (.t 33)),o_ 35 (.call (.f 155) [.t 25,.t 28,.t 31,.t 34]),m_ 6 35]) (.ret)))
def r1115:List RR:=[.t 6]
theorem ok1115:okFn Go.Proofs.Tryz.prog 115 36 c1115 r1115 3=true:=by kernel_rfl
def c1116:SCode:=
 .seq (.reg [o_ 3 (.box 68 (.t 0)),o_ 6 (.mv (.k (.int .i64 0)))]) (.seq (.dreg [0,0,2,6,0,0,32,96,240,510,0,0,2048,6144,16383,32767] [m_ 7 1,o_ 8 (.fad 68 0 0 (.t 3)),o_ 9 (.ld1 65 (.t 8)),o_ 10 (.len 65 (.t 9)),o_ 11 (.ldn 68 3 (.t 3)),o_ 12 (.fad 68 0 0 (.t 3)),o_ 13 (.ld1 65 (.t 12)),o_ 14 (.len 65 (.t 13)),o_ 15 (.call (.f 127) [.t 11,.t 14]),o_ 16 (.bin .add (.t 10) (.t 15)),m_ 17 2,o_ 18 (.fad 68 1 1 (.t 3)),o_ 19 (.ld1 66 (.t 18)),o_ 20 (.len 66 (.t 19)),o_ 21 (.call (.f 155) [.t 7,.t 16,.t 17,.t 20]),m_ 6 21]) (.ret))
def r1116:List RR:=[.t 6]
theorem ok1116:okFn Go.Proofs.Tryz.prog 116 22 c1116 r1116 3=true:=by kernel_rfl
def c1117:SCode:=
 .seq (.reg [o_ 3 (.box 68 (.t 0)),o_ 6 (.mv (.k (.int .i64 0)))]) (.seq (.dreg [0,0,2,6,0,0,32,96,240,510,0,1024,3072,8190,0,0,32768,98304,262143,524287] [m_ 7 1,o_ 8 (.fad 68 0 0 (.t 3)),o_ 9 (.ld1 65 (.t 8)),o_ 10 (.len 65 (.t 9)),o_ 11 (.ldn 68 3 (.t 3)),o_ 12 (.fad 68 0 0 (.t 3)),o_ 13 (.ld1 65 (.t 12)),o_ 14 (.len 65 (.t 13)),o_ 15 (.call (.f 127) [.t 11,.t 14]),o_ 16 (.bin .add (.t 10) (.t 15)),o_ 17 (.fad 68 1 1 (.t 3)),o_ 18 (.ld1 66 (.t 17)),o_ 19 (.len 66 (.t 18)),o_ 20 (.bin .add (.t 16) (.t 19)),m_ 21 2,o_ 22 (.fad 68 0 0 (.t 3)),o_ 23 (.ld1 65 (.t 22)),o_ 24 (.len 65 (.t 23)),o_ 25 (.call (.f 155) [.t 7,.t 20,.t 21,.t 24]),m_ 6 25]) (.ret))
def r1117:List RR:=[.t 6]
theorem ok1117:okFn Go.Proofs.Tryz.prog 117 26 c1117 r1117 3=true:=by kernel_rfl
def c1156:SCode:=
 .seq (.reg [o_ 2 (.mv (.k (.bool false)))]) (.seq (.reg [m_ 3 0,o_ 4 (.bin .geq (.t 3) (.k (.int .i64 0))),m_ 5 4,pm_ 6 5 0,p_ 7 5 (.bin .leq (.t 6) (.k (.int .i64 6))),o_ 8 (.pick (.t 5) (.t 7) (.k (.bool false))),m_ 2 8]) (.ret))
def r1156:List RR:=[.t 2]
theorem ok1156:okFn Go.Proofs.Tryz.prog 156 9 c1156 r1156 1=true:=by kernel_rfl
def c1084:SCode:=
 .seq (.reg [o_ 1 (.box 70 (.t 0)),o_ 2 (.mv (.k (.int .i64 0)))]) (.seq (.seq (.reg [o_ 3 (.fad 70 0 0 (.t 1)),o_ 4 (.ld1 3 (.t 3))]) (.block 0 (.seq (.reg [o_ 6 (.bin .eql (.t 4) (.k (.int .i64 3))),m_ 5 6]) (.cond (.t 5) (.seq (.reg [o_ 7 (.fad 70 5 9 (.t 1)),o_ 8 (.ldn 68 3 (.t 7)),o_ 9 (.fad 70 3 7 (.t 1)),o_ 10 (.ld1 3 (.t 9)),o_ 11 (.fad 70 4 8 (.t 1)),o_ 12 (.ld1 3 (.t 11)),o_ 13 (.call (.f 114) [.t 8,.t 10,.t 12]),m_ 2 13]) (.ret)) (.seq (.reg [o_ 15 (.bin .eql (.t 4) (.k (.int .i64 4))),m_ 14 15]) (.cond (.t 14) (.seq (.reg [o_ 16 (.fad 70 5 9 (.t 1)),o_ 17 (.ldn 68 3 (.t 16)),o_ 18 (.fad 70 3 7 (.t 1)),o_ 19 (.ld1 3 (.t 18)),o_ 20 (.fad 70 4 8 (.t 1)),o_ 21 (.ld1 3 (.t 20)),o_ 22 (.call (.f 115) [.t 17,.t 19,.t 21]),m_ 2 22]) (.ret)) (.seq (.reg [o_ 24 (.bin .eql (.t 4) (.k (.int .i64 5))),m_ 23 24]) (.cond (.t 23) (.seq (.reg [o_ 25 (.fad 70 5 9 (.t 1)),
 o_ 26 (.ldn 68 3 (.t 25)),o_ 27 (.fad 70 3 7 (.t 1)),o_ 28 (.ld1 3 (.t 27)),o_ 29 (.fad 70 4 8 (.t 1)),o_ 30 (.ld1 3 (.t 29)),o_ 31 (.call (.f 116) [.t 26,.t 28,.t 30]),m_ 2 31]) (.ret)) (.skip))))))))) (.seq (.reg [o_ 32 (.fad 70 5 9 (.t 1)),o_ 33 (.ldn 68 3 (.t 32)),o_ 34 (.fad 70 3 7 (.t 1)),o_ 35 (.ld1 3 (.t 34)),o_ 36 (.fad 70 4 8 (.t 1)),o_ 37 (.ld1 3 (.t 36)),o_ 38 (.call (.f 117) [.t 33,.t 35,.t 37]),m_ 2 38]) (.ret)))
def r1084:List RR:=[.t 2]
theorem ok1084:okFn Go.Proofs.Tryz.prog 84 39 c1084 r1084 1=true:=by kernel_rfl
def c1191:SCode:=
 .seq (.reg [o_ 2 (.box 63 (.t 0)),o_ 4 (.mv (.k (.bool false)))]) (.seq (.reg [o_ 5 (.ldn 63 3 (.t 2)),m_ 6 1,o_ 7 (.call (.f 81) [.t 5,.t 6,.k (.int .i64 65536)]),m_ 4 7]) (.ret))
def r1191:List RR:=[.t 4]
theorem ok1191:okFn Go.Proofs.Tryz.prog 191 8 c1191 r1191 2=true:=by kernel_rfl
def c1183:SCode:=
 .seq (.reg [o_ 3 (.box 3 (.t 1)),o_ 4 (.mv (.k (.bool false)))]) (.seq (.reg [m_ 5 0,o_ 6 (.mkfn 193 [] [.t 3]),o_ 7 (.call (.f 175) [.t 5,.t 6]),o_ 8 (.not (.t 7)),m_ 4 8]) (.ret))
def r1183:List RR:=[.t 4]
theorem ok1183:okFn Go.Proofs.Tryz.prog 183 9 c1183 r1183 2=true:=by kernel_rfl
def c1193:SCode:=
 .seq (.reg [o_ 2 (.box 63 (.t 0)),o_ 3 (.mv (.k (.bool false)))]) (.seq (.reg [o_ 4 (.ldn 63 3 (.t 2)),o_ 5 (.ld1 3 (.t 1)),o_ 6 (.call (.f 191) [.t 4,.t 5]),o_ 7 (.not (.t 6)),m_ 3 7]) (.ret))
def r1193:List RR:=[.t 3]
theorem ok1193:okFn Go.Proofs.Tryz.prog 193 8 c1193 r1193 2=true:=by kernel_rfl
def c1179:SCode:=
 .seq (.reg [o_ 4 (.box 63 (.t 1)),o_ 6 (.mv (.k (.bool false)))]) (.seq (.seq (.reg [m_ 7 0,o_ 8 (.not (.t 7))]) (.cond (.t 8) (.seq (.reg [o_ 9 (.ldn 63 3 (.t 4)),o_ 10 (.call (.f 83) [.t 9]),m_ 6 10]) (.ret)) (.skip))) (.seq (.reg [o_ 11 (.ldn 63 3 (.t 4)),m_ 12 2,o_ 13 (.call (.f 191) [.t 11,.t 12]),m_ 6 13]) (.ret)))
def r1179:List RR:=[.t 6]
theorem ok1179:okFn Go.Proofs.Tryz.prog 179 14 c1179 r1179 3=true:=by kernel_rfl
def c1190b0:SCode:=
 .seq (.reg [o_ 72 (.bin .lss (.t 71) (.t 70))]) (.seq (.cond (.t 72) (.skip) (.exit 0)) (.seq (.block 1 (.seq (.reg [m_ 73 71,o_ 74 (.iad 63 3 (.t 69) (.t 71)),o_ 75 (.ldn 63 3 (.t 74)),o_ 8 (.alloc 63 [.v (.int .i64 0),.v (.int .i64 0),.cap 3 40 []]),m_ 7 73,n_ (.stn 63 3 (.t 8) (.t 75))]) (.seq (.reg [o_ 76 (.ldn 63 3 (.t 8)),m_ 77 2,m_ 78 7,o_ 79 (.bin .add (.t 77) (.t 78)),o_ 80 (.call (.f 191) [.t 76,.t 79]),o_ 81 (.not (.t 80))]) (.cond (.t 81) (.seq (.reg [o_ 6 (.mv (.k (.bool false)))]) (.ret)) (.skip))))) (.reg [o_ 82 (.bin .add (.t 71) (.k (.int .i64 1))),m_ 71 82])))
def c1190:SCode:=
 .seq (.reg [o_ 3 (.box 68 (.t 0)),o_ 4 (.box 126 (.t 1)),o_ 6 (.mv (.k (.bool false)))]) (.seq (.seq (.reg [o_ 9 (.fad 126 0 0 (.t 4)),o_ 10 (.ld1 4 (.t 9)),o_ 11 (.not (.t 10))]) (.cond (.t 11) (.seq (.reg [o_ 12 (.fad 126 1 1 (.t 4)),o_ 13 (.ldn 63 3 (.t 12)),m_ 14 2,o_ 15 (.call (.f 191) [.t 13,.t 14]),m_ 16 15,p_ 17 16 (.fad 126 2 4 (.t 4)),p_ 18 16 (.ld1 61 (.t 17)),p_ 19 16 (.len 61 (.t 18)),p_ 20 16 (.fad 126 4 6 (.t 4)),p_ 21 16 (.ld1 61 (.t 20)),p_ 22 16 (.len 61 (.t 21)),p_ 23 16 (.bin .add (.t 19) (.t 22)),p_ 24 16 (.bin .eql (.t 23) (.k (.int .i64 0))),o_ 25 (.pick (.t 16) (.t 24) (.k (.bool false))),m_ 26 25,p_ 27 26 (.fad 126 3 5 (.t 4)),p_ 28 26 (.ld1 3 (.t 27)),p_ 29 26 (.bin .eql (.t 28) (.k (.int .i64 0))),o_ 30 (.pick (.t 26) (.t 29) (.k (.bool false))),m_ 6 30]) (.ret)) (.skip)))
 (.seq (.seq (.dreg [0,1,3,7,15,31,63,127,255,511,1023,2047,4095,8191,16383,32767,65535,131071,65535,327679,851967,2097151,4194303,8388607,16777215,33554431,67108863,16777215,150994943,16777215,553648127,2030043135,4177526783,8472494079,17062428671,34359738367,68719476735] [o_ 31 (.fad 126 1 1 (.t 4)),o_ 32 (.ldn 63 3 (.t 31)),o_ 33 (.call (.f 83) [.t 32]),o_ 34 (.not (.t 33)),m_ 35 34,q_ 36 35 (.fad 126 2 4 (.t 4)),q_ 37 35 (.ld1 61 (.t 36)),q_ 38 35 (.len 61 (.t 37)),q_ 39 35 (.bin .gtr (.t 38) (.k (.int .i64 12))),o_ 40 (.pick (.t 35) (.k (.bool true)) (.t 39)),m_ 41 40,q_ 42 41 (.fad 126 3 5 (.t 4)),q_ 43 41 (.ld1 3 (.t 42)),q_ 44 41 (.bin .lss (.t 43) (.k (.int .i64 0))),o_ 45 (.pick (.t 41) (.k (.bool true)) (.t 44)),m_ 46 45,q_ 47 46 (.fad 126 3 5 (.t 4)),q_ 48 46 (.ld1 3 (.t 47)),q_ 49 46 (.fad 68 0 0 (.t 3)),q_ 50 46 (.ld1 65 (.t 49)),
 q_ 51 46 (.len 65 (.t 50)),q_ 52 46 (.bin .geq (.t 48) (.t 51)),o_ 53 (.pick (.t 46) (.k (.bool true)) (.t 52)),m_ 54 53,q_ 55 54 (.fad 126 4 6 (.t 4)),q_ 56 54 (.ld1 61 (.t 55)),q_ 57 54 (.len 61 (.t 56)),q_ 58 54 (.fad 68 0 0 (.t 3)),q_ 59 54 (.ld1 65 (.t 58)),q_ 60 54 (.fad 126 3 5 (.t 4)),q_ 61 54 (.ld1 3 (.t 60)),q_ 62 54 (.iad 104 6 (.t 59) (.t 61)),q_ 63 54 (.fad 104 0 0 (.t 62)),q_ 64 54 (.ld1 102 (.t 63)),q_ 65 54 (.len 102 (.t 64)),q_ 66 54 (.bin .neq (.t 57) (.t 65)),o_ 67 (.pick (.t 54) (.k (.bool true)) (.t 66))]) (.cond (.t 67) (.seq (.reg [o_ 6 (.mv (.k (.bool false)))]) (.ret)) (.skip))) (.seq (.seq (.reg [o_ 68 (.fad 126 2 4 (.t 4)),o_ 69 (.ld1 61 (.t 68)),o_ 70 (.len 61 (.t 69)),o_ 71 (.mv (.k (.int .i64 0)))]) (.block 0 (.loop c1190b0))) (.seq (.reg [o_ 83 (.fad 126 4 6 (.t 4)),o_ 84 (.ld1 61 (.t 83)),m_ 85 2,o_ 86 (.fad 126 2 4 (.t 4)),o_ 87 (.ld1 61 (.t 86)),
 o_ 88 (.len 61 (.t 87)),o_ 89 (.bin .add (.t 85) (.t 88)),o_ 90 (.call (.f 183) [.t 84,.t 89]),m_ 6 90]) (.ret)))))
def r1190:List RR:=[.t 6]
theorem ok1190:okFn Go.Proofs.Tryz.prog 190 91 c1190 r1190 3=true:=by kernel_rfl
def c1178b0:SCode:=
 .seq (.reg [o_ 13 (.bin .lss (.t 12) (.t 11))]) (.seq (.cond (.t 13) (.skip) (.exit 0)) (.seq (.block 1 (.seq (.reg [m_ 14 12,o_ 15 (.iad 126 7 (.t 10) (.t 12)),o_ 16 (.ldn 126 7 (.t 15)),o_ 6 (.alloc 126 [.v (.bool false),.v (.int .i64 0),.v (.int .i64 0),.cap 3 40 [],.cap 3 40 [],.v (.int .i64 0),.cap 3 40 []]),m_ 5 14,n_ (.stn 126 7 (.t 6) (.t 16))]) (.seq (.reg [o_ 17 (.ldn 68 3 (.t 2)),o_ 18 (.ldn 126 7 (.t 6)),m_ 19 5,o_ 20 (.call (.f 190) [.t 17,.t 18,.t 19]),o_ 21 (.not (.t 20))]) (.cond (.t 21) (.seq (.reg [o_ 4 (.mv (.k (.bool false)))]) (.ret)) (.skip))))) (.reg [o_ 22 (.bin .add (.t 12) (.k (.int .i64 1))),m_ 12 22])))
def c1178:SCode:=
 .seq (.reg [o_ 2 (.box 68 (.t 0)),o_ 4 (.mv (.k (.bool false)))]) (.seq (.seq (.reg [m_ 7 1,o_ 8 (.len 102 (.t 7)),o_ 9 (.bin .gtr (.t 8) (.k (.int .i64 12)))]) (.cond (.t 9) (.seq (.reg [o_ 4 (.mv (.k (.bool false)))]) (.ret)) (.skip))) (.seq (.seq (.reg [m_ 10 1,o_ 11 (.len 102 (.t 10)),o_ 12 (.mv (.k (.int .i64 0)))]) (.block 0 (.loop c1178b0))) (.seq (.reg [o_ 4 (.mv (.k (.bool true)))]) (.ret))))
def r1178:List RR:=[.t 4]
theorem ok1178:okFn Go.Proofs.Tryz.prog 178 23 c1178 r1178 2=true:=by kernel_rfl
def c1180:SCode:=
 .seq (.reg [o_ 4 (.mv (.k (.bool false)))]) (.seq (.reg [m_ 5 0,m_ 6 1,o_ 7 (.call (.f 192) [.t 5,.t 6]),o_ 8 (.bin .geq (.t 7) (.k (.int .i64 0))),m_ 4 8]) (.ret))
def r1180:List RR:=[.t 4]
theorem ok1180:okFn Go.Proofs.Tryz.prog 180 9 c1180 r1180 2=true:=by kernel_rfl
def c1192b0:SCode:=
 .seq (.reg [o_ 9 (.bin .lss (.t 8) (.t 7))]) (.seq (.cond (.t 9) (.skip) (.exit 0)) (.seq (.block 1 (.seq (.reg [m_ 10 8,m_ 5 10]) (.seq (.reg [m_ 11 1,m_ 12 0,m_ 13 5,o_ 14 (.iad 126 7 (.t 12) (.t 13)),o_ 15 (.ldn 126 7 (.t 14)),o_ 16 (.call (.t 11) [.t 15])]) (.cond (.t 16) (.seq (.reg [m_ 17 5,m_ 4 17]) (.ret)) (.skip))))) (.reg [o_ 18 (.bin .add (.t 8) (.k (.int .i64 1))),m_ 8 18])))
def c1192:SCode:=
 .seq (.reg [o_ 4 (.mv (.k (.int .i64 0)))]) (.seq (.seq (.reg [m_ 6 0,o_ 7 (.len 102 (.t 6)),o_ 8 (.mv (.k (.int .i64 0)))]) (.block 0 (.loop c1192b0))) (.seq (.reg [o_ 4 (.mv (.k (.int .i64 (-1))))]) (.ret)))
def r1192:List RR:=[.t 4]
theorem ok1192:okFn Go.Proofs.Tryz.prog 192 19 c1192 r1192 2=true:=by kernel_rfl
def c1181:SCode:=
 .seq (.reg [o_ 3 (.box 126 (.t 0)),o_ 4 (.mv (.k (.bool false)))]) (.seq (.reg [o_ 5 (.fad 126 0 0 (.t 3)),o_ 6 (.ld1 4 (.t 5)),m_ 7 6,p_ 8 7 (.fad 126 2 4 (.t 3)),p_ 9 7 (.ld1 61 (.t 8)),p_ 10 7 (.len 61 (.t 9)),p_ 11 7 (.bin .gtr (.t 10) (.k (.int .i64 0))),pm_ 12 7 11,q_ 13 12 (.fad 126 3 5 (.t 3)),q_ 14 12 (.ld1 3 (.t 13)),q_ 15 12 (.ld1 3 (.t 1)),q_ 16 12 (.bin .geq (.t 14) (.t 15)),p_ 17 7 (.pick (.t 12) (.k (.bool true)) (.t 16)),pm_ 18 7 17,q_ 19 18 (.fad 104 2 2 (.t 2)),q_ 20 18 (.ld1 4 (.t 19)),p_ 21 7 (.pick (.t 18) (.k (.bool true)) (.t 20)),o_ 22 (.pick (.t 7) (.t 21) (.k (.bool false))),m_ 4 22]) (.ret))
def r1181:List RR:=[.t 4]
theorem ok1181:okFn Go.Proofs.Tryz.prog 181 23 c1181 r1181 3=true:=by kernel_rfl
def c1157:SCode:=
 .seq (.reg [o_ 2 (.box 68 (.t 0)),o_ 3 (.box 3 (.t 1)),o_ 4 (.mv (.k (.bool false)))]) (.seq (.reg [o_ 6 (.fad 68 0 0 (.t 2)),o_ 7 (.ld1 65 (.t 6)),o_ 8 (.ld1 3 (.t 3)),o_ 9 (.iad 104 6 (.t 7) (.t 8)),o_ 10 (.ldn 104 6 (.t 9)),o_ 5 (.alloc 104 [.cap 7 104 [],.v (.int .i64 0),.v (.bool false),.v (.int .i64 0),.v (.int .i64 0),.cap 3 40 []]),n_ (.stn 104 6 (.t 5) (.t 10))]) (.seq (.seq (.reg [o_ 11 (.ldn 68 3 (.t 2)),o_ 12 (.fad 104 0 0 (.t 5)),o_ 13 (.ld1 102 (.t 12)),o_ 14 (.call (.f 178) [.t 11,.t 13]),o_ 15 (.not (.t 14)),m_ 16 15,q_ 17 16 (.fad 104 1 1 (.t 5)),q_ 18 16 (.ld1 3 (.t 17)),q_ 19 16 (.call (.f 156) [.t 18]),q_ 20 16 (.not (.t 19)),o_ 21 (.pick (.t 16) (.k (.bool true)) (.t 20)),m_ 22 21,q_ 23 22 (.fad 104 2 2 (.t 5)),q_ 24 22 (.ld1 4 (.t 23)),q_ 25 22 (.fad 104 3 3 (.t 5)),q_ 26 22 (.ldn 63 3 (.t 25)),q_ 27 22 (.fad 104 0 0 (.t 5)),q_ 28 22 (.ld1 102 (.t 27)),
 q_ 29 22 (.len 102 (.t 28)),q_ 30 22 (.call (.f 179) [.t 24,.t 26,.t 29]),q_ 31 22 (.not (.t 30)),o_ 32 (.pick (.t 22) (.k (.bool true)) (.t 31))]) (.cond (.t 32) (.seq (.reg [o_ 4 (.mv (.k (.bool false)))]) (.ret)) (.skip))) (.seq (.reg [o_ 33 (.fad 104 0 0 (.t 5)),o_ 34 (.ld1 102 (.t 33)),o_ 35 (.mkfn 181 [] [.t 3,.t 5]),o_ 36 (.call (.f 180) [.t 34,.t 35]),o_ 37 (.not (.t 36)),m_ 4 37]) (.ret))))
def r1157:List RR:=[.t 4]
theorem ok1157:okFn Go.Proofs.Tryz.prog 157 38 c1157 r1157 2=true:=by kernel_rfl
def c1160:SCode:=
 .seq (.reg [o_ 2 (.box 68 (.t 0)),o_ 3 (.box 106 (.t 1)),o_ 4 (.mv (.k (.bool false)))]) (.seq (.seq (.reg [o_ 6 (.fad 106 0 0 (.t 3)),o_ 7 (.ld1 3 (.t 6)),o_ 8 (.bin .lss (.t 7) (.k (.int .i64 0))),m_ 9 8,q_ 10 9 (.fad 106 0 0 (.t 3)),q_ 11 9 (.ld1 3 (.t 10)),q_ 12 9 (.fad 68 0 0 (.t 2)),q_ 13 9 (.ld1 65 (.t 12)),q_ 14 9 (.len 65 (.t 13)),q_ 15 9 (.bin .geq (.t 11) (.t 14)),o_ 16 (.pick (.t 9) (.k (.bool true)) (.t 15)),m_ 17 16,q_ 18 17 (.ldn 68 3 (.t 2)),q_ 19 17 (.fad 106 1 1 (.t 3)),q_ 20 17 (.ld1 102 (.t 19)),q_ 21 17 (.call (.f 178) [.t 18,.t 20]),q_ 22 17 (.not (.t 21)),o_ 23 (.pick (.t 17) (.k (.bool true)) (.t 22))]) (.cond (.t 23) (.seq (.reg [o_ 4 (.mv (.k (.bool false)))]) (.ret)) (.skip))) (.seq (.reg [o_ 24 (.fad 68 0 0 (.t 2)),o_ 25 (.ld1 65 (.t 24)),o_ 26 (.fad 106 0 0 (.t 3)),o_ 27 (.ld1 3 (.t 26)),o_ 28 (.iad 104 6 (.t 25) (.t 27)),o_ 29 (.ldn 104 6 (.t 28)),
 o_ 5 (.alloc 104 [.cap 7 104 [],.v (.int .i64 0),.v (.bool false),.v (.int .i64 0),.v (.int .i64 0),.cap 3 40 []]),n_ (.stn 104 6 (.t 5) (.t 29))]) (.seq (.reg [o_ 30 (.fad 106 2 2 (.t 3)),o_ 31 (.ld1 61 (.t 30)),o_ 32 (.len 61 (.t 31)),o_ 33 (.fad 104 0 0 (.t 5)),o_ 34 (.ld1 102 (.t 33)),o_ 35 (.len 102 (.t 34)),o_ 36 (.bin .eql (.t 32) (.t 35)),m_ 37 36,p_ 38 37 (.fad 106 2 2 (.t 3)),p_ 39 37 (.ld1 61 (.t 38)),p_ 40 37 (.fad 106 1 1 (.t 3)),p_ 41 37 (.ld1 102 (.t 40)),p_ 42 37 (.len 102 (.t 41)),p_ 43 37 (.call (.f 183) [.t 39,.t 42]),o_ 44 (.pick (.t 37) (.t 43) (.k (.bool false))),m_ 45 44,p_ 46 45 (.fad 104 2 2 (.t 5)),p_ 47 45 (.ld1 4 (.t 46)),p_ 48 45 (.fad 106 3 3 (.t 3)),p_ 49 45 (.ldn 63 3 (.t 48)),p_ 50 45 (.fad 106 1 1 (.t 3)),p_ 51 45 (.ld1 102 (.t 50)),p_ 52 45 (.len 102 (.t 51)),p_ 53 45 (.call (.f 179) [.t 47,.t 49,.t 52]),
 o_ 54 (.pick (.t 45) (.t 53) (.k (.bool false))),m_ 4 54]) (.ret))))
def r1160:List RR:=[.t 4]
theorem ok1160:okFn Go.Proofs.Tryz.prog 160 55 c1160 r1160 2=true:=by kernel_rfl
def c1158:SCode:=
 .seq (.reg [o_ 4 (.mv (.k (.bool false)))]) (.seq (.reg [m_ 5 0,m_ 6 1,o_ 7 (.call (.f 182) [.t 5,.t 6]),o_ 8 (.bin .geq (.t 7) (.k (.int .i64 0))),m_ 4 8]) (.ret))
def r1158:List RR:=[.t 4]
theorem ok1158:okFn Go.Proofs.Tryz.prog 158 9 c1158 r1158 2=true:=by kernel_rfl
def c1182b0:SCode:=
 .seq (.reg [o_ 9 (.bin .lss (.t 8) (.t 7))]) (.seq (.cond (.t 9) (.skip) (.exit 0)) (.seq (.block 1 (.seq (.reg [m_ 10 8,m_ 5 10]) (.seq (.reg [m_ 11 1,m_ 12 0,m_ 13 5,o_ 14 (.iad 106 6 (.t 12) (.t 13)),o_ 15 (.ldn 106 6 (.t 14)),o_ 16 (.call (.t 11) [.t 15])]) (.cond (.t 16) (.seq (.reg [m_ 17 5,m_ 4 17]) (.ret)) (.skip))))) (.reg [o_ 18 (.bin .add (.t 8) (.k (.int .i64 1))),m_ 8 18])))
def c1182:SCode:=
 .seq (.reg [o_ 4 (.mv (.k (.int .i64 0)))]) (.seq (.seq (.reg [m_ 6 0,o_ 7 (.len 66 (.t 6)),o_ 8 (.mv (.k (.int .i64 0)))]) (.block 0 (.loop c1182b0))) (.seq (.reg [o_ 4 (.mv (.k (.int .i64 (-1))))]) (.ret)))
def r1182:List RR:=[.t 4]
theorem ok1182:okFn Go.Proofs.Tryz.prog 182 19 c1182 r1182 2=true:=by kernel_rfl
def c1159:SCode:=
 .seq (.reg [o_ 2 (.box 106 (.t 0)),o_ 3 (.mv (.k (.bool false)))]) (.seq (.reg [o_ 4 (.ldn 68 3 (.t 1)),o_ 5 (.ldn 106 6 (.t 2)),o_ 6 (.call (.f 160) [.t 4,.t 5]),o_ 7 (.not (.t 6)),m_ 3 7]) (.ret))
def r1159:List RR:=[.t 3]
theorem ok1159:okFn Go.Proofs.Tryz.prog 159 8 c1159 r1159 2=true:=by kernel_rfl
def c1121b0:SCode:=
 .seq (.reg [o_ 30 (.bin .lss (.t 29) (.t 28))]) (.seq (.cond (.t 30) (.skip) (.exit 0)) (.seq (.block 1 (.seq (.reg [m_ 31 29,m_ 3 31]) (.seq (.reg [o_ 32 (.ldn 68 3 (.t 1)),m_ 33 3,o_ 34 (.call (.f 157) [.t 32,.t 33]),o_ 35 (.not (.t 34))]) (.cond (.t 35) (.seq (.reg [o_ 2 (.mv (.k (.int .i64 12)))]) (.ret)) (.skip))))) (.reg [o_ 36 (.bin .add (.t 29) (.k (.int .i64 1))),m_ 29 36])))
def c1121:SCode:=
 .seq (.reg [o_ 1 (.box 68 (.t 0)),o_ 2 (.mv (.k (.int .i64 0)))]) (.seq (.seq (.reg [o_ 4 (.fad 68 0 0 (.t 1)),o_ 5 (.ld1 65 (.t 4)),o_ 6 (.len 65 (.t 5)),o_ 7 (.bin .lss (.t 6) (.k (.int .i64 1))),m_ 8 7,q_ 9 8 (.fad 68 0 0 (.t 1)),q_ 10 8 (.ld1 65 (.t 9)),q_ 11 8 (.len 65 (.t 10)),q_ 12 8 (.bin .gtr (.t 11) (.k (.int .i64 4))),o_ 13 (.pick (.t 8) (.k (.bool true)) (.t 12)),m_ 14 13,q_ 15 14 (.fad 68 1 1 (.t 1)),q_ 16 14 (.ld1 66 (.t 15)),q_ 17 14 (.len 66 (.t 16)),q_ 18 14 (.bin .gtr (.t 17) (.k (.int .i64 8))),o_ 19 (.pick (.t 14) (.k (.bool true)) (.t 18)),m_ 20 19,q_ 21 20 (.fad 68 2 2 (.t 1)),q_ 22 20 (.ld1 3 (.t 21)),q_ 23 20 (.call (.f 156) [.t 22]),q_ 24 20 (.not (.t 23)),o_ 25 (.pick (.t 20) (.k (.bool true)) (.t 24))]) (.cond (.t 25) (.seq (.reg [o_ 2 (.mv (.k (.int .i64 12)))]) (.ret)) (.skip))) (.seq (.seq (.reg [o_ 26 (.fad 68 0 0 (.t 1)),o_ 27 (.ld1 65 (.t 26)),
 o_ 28 (.len 65 (.t 27)),o_ 29 (.mv (.k (.int .i64 0)))]) (.block 0 (.loop c1121b0))) (.seq (.seq (.reg [o_ 37 (.fad 68 1 1 (.t 1)),o_ 38 (.ld1 66 (.t 37)),o_ 39 (.mkfn 159 [] [.t 1]),o_ 40 (.call (.f 158) [.t 38,.t 39])]) (.cond (.t 40) (.seq (.reg [o_ 2 (.mv (.k (.int .i64 12)))]) (.ret)) (.skip))) (.seq (.reg [o_ 2 (.mv (.k (.int .i64 0)))]) (.ret)))))
def r1121:List RR:=[.t 2]
theorem ok1121:okFn Go.Proofs.Tryz.prog 121 41 c1121 r1121 1=true:=by kernel_rfl
end Go.Abs

namespace Go.Abs
open Go.Proofs
theorem spi124 {f:Nat} {rs:List (Nat × Nat)} {l:Objs} (hl:NoKeys l) {p:T → Bool} {ts:List T} (hf:∀ t,t ∈ ts → Spec Tryz.prog f ([tm t] ++ refs rs) l (bb (p t)) l):Spec Tryz.prog 188 [tms ts,.c (.clo f [] rs)] l (ib (idx p 0 ts)) l:=by
 refine spec_ro (base:=124000) hl ok124 rfl fun σ h0 hro hr=>?_
 have s0:σ.sl 0=tms ts:=h0 0
 have s1:σ.sl 1=.c (.clo f [] rs):=h0 1
 have hlen:=real_tms (hr (tms ts) (by simp))
 simp only [tms] at s0
 clear h0 hr
 unfold c124
 simp [s0,s1,-W_block]
 rw [W_block]
 refine W_loop (fun m σ=>∃ (i:Nat),i + m=ts.length ∧ idx p i (ts.drop i)=idx p 0 ts ∧ σ.sl 0=tms ts ∧ σ.sl 1=.c (.clo f [] rs) ∧ σ.sl 7=ib ts.length ∧ σ.sl 8=ib i ∧ Ro σ l) ts.length ?_ ?_
 ·exact ⟨0,by simp,by simp,by simp [s0,tms],by simp [s1],by simp [ib],by simp [ib],hro.mono fun k=>by simp⟩
 ·clear s0 s1 hro σ
  rintro m σ ⟨i,hm,hp,q0,q1,q7,q8,hro⟩
  unfold c124b0
  simp only [tms,ib] at q0 q1 q7 q8
  by_cases hi:i < ts.length
  ·obtain ⟨t,ht⟩:=at_of hi
   obtain ⟨_,ht'⟩:=getE ht
   have w1:=wrap_succ (i:=i) (by omega)
   rw [drop_at ht,idx] at hp
   simp [q0,q1,q7,q8,hi,ht']
   refine ECall.ro (args:=[tm t]) l (hf t (List.mem_of_getElem? ht)) (by simp [tm]) (by simp) rfl (hro.mono fun k=>by simp) fun hx=>?_
   clear hx
   cases hd:p t with
   | true=>
    rw [hd] at hp
    simp [bb,q8]
    exact EndU_ro (hro.mono fun k=>by simp) (by simp [r124]) (by simp [r124,ib,← hp])
   | false=>
    rw [hd] at hp
    simp [bb,q8,w1]
    exact ⟨m - 1,by omega,i + 1,by omega,by simpa using hp,by simp [q0,tms],by simp [q1],by simp [q7,ib],by simp [ib],hro.mono fun k=>by simp⟩
  ·have:i=ts.length:=by omega
   subst this
   simp [idx] at hp
   simp [q0,q1,q7,q8]
   exact EndU_ro (hro.mono fun k=>by simp) (by simp [r124]) (by simp [r124,ib,← hp])
theorem spc112 {f:Nat} {rs:List (Nat × Nat)} {l:Objs} (hl:NoKeys l) {p:T → Bool} {ts:List T} (hf:∀ t,t ∈ ts → Spec Tryz.prog f ([tm t] ++ refs rs) l (bb (p t)) l):Spec Tryz.prog 175 [tms ts,.c (.clo f [] rs)] l (bb (ts.any p)) l:=by
 refine spec_ro (base:=112000) hl ok112 rfl fun σ h0 hro hr=>?_
 have s0:σ.sl 0=tms ts:=h0 0
 have s1:σ.sl 1=.c (.clo f [] rs):=h0 1
 simp only [tms] at s0
 clear h0 hr
 unfold c112
 simp [s0,s1]
 refine ECall.ro (rs:=[]) (args:=[tms ts,.c (.clo f [] rs)]) l (by simpa [refs] using spi124 hl hf) (by simp [tms,toD2,toD1,toD]) (by simp) rfl (hro.mono fun k=>by simp) fun hx=>?_
 simp [ib]
 exact EndU_ro (hro.mono fun k=>by simp) (by simp [r112]) (by simp [r112,bb,← idx_any (p:=p) (ts:=ts) (i:=0)])
theorem spi1192 {f:Nat} {rs:List (Nat × Nat)} {l:Objs} (hl:NoKeys l) {p:A → Bool} {ts:List A} (hf:∀ t,t ∈ ts → Spec Tryz.prog f ([am t] ++ refs rs) l (bb (p t)) l):Spec Tryz.prog 192 [ams ts,.c (.clo f [] rs)] l (ib (idx p 0 ts)) l:=by
 refine spec_ro (base:=1192000) hl ok1192 rfl fun σ h0 hro hr=>?_
 have s0:σ.sl 0=ams ts:=h0 0
 have s1:σ.sl 1=.c (.clo f [] rs):=h0 1
 have hlen:=real_ams (hr (ams ts) (by simp))
 simp only [ams] at s0
 clear h0 hr
 unfold c1192
 simp [s0,s1,-W_block]
 rw [W_block]
 refine W_loop (fun m σ=>∃ (i:Nat),i + m=ts.length ∧ idx p i (ts.drop i)=idx p 0 ts ∧ σ.sl 0=ams ts ∧ σ.sl 1=.c (.clo f [] rs) ∧ σ.sl 7=ib ts.length ∧ σ.sl 8=ib i ∧ Ro σ l) ts.length ?_ ?_
 ·exact ⟨0,by simp,by simp,by simp [s0,ams],by simp [s1],by simp [ib],by simp [ib],hro.mono fun k=>by simp⟩
 ·clear s0 s1 hro σ
  rintro m σ ⟨i,hm,hp,q0,q1,q7,q8,hro⟩
  unfold c1192b0
  simp only [ams,ib] at q0 q1 q7 q8
  by_cases hi:i < ts.length
  ·obtain ⟨t,ht⟩:=at_of hi
   obtain ⟨_,ht'⟩:=getE ht
   have w1:=wrap_succ (i:=i) (by omega)
   rw [drop_at ht,idx] at hp
   simp [q0,q1,q7,q8,hi,ht',A.cells]
   refine ECall.ro (args:=[am t]) l (hf t (List.mem_of_getElem? ht)) (by simp [am,A.cells]) (by simp) rfl (hro.mono fun k=>by simp) fun hx=>?_
   clear hx
   cases hd:p t with
   | true=>
    rw [hd] at hp
    simp [bb,q8]
    exact EndU_ro (hro.mono fun k=>by simp) (by simp [r1192]) (by simp [r1192,ib,← hp])
   | false=>
    rw [hd] at hp
    simp [bb,q8,w1]
    exact ⟨m - 1,by omega,i + 1,by omega,by simpa using hp,by simp [q0,ams],by simp [q1],by simp [q7,ib],by simp [ib],hro.mono fun k=>by simp⟩
  ·have:i=ts.length:=by omega
   subst this
   simp [idx] at hp
   simp [q0,q1,q7,q8]
   exact EndU_ro (hro.mono fun k=>by simp) (by simp [r1192]) (by simp [r1192,ib,← hp])
theorem spc1180 {f:Nat} {rs:List (Nat × Nat)} {l:Objs} (hl:NoKeys l) {p:A → Bool} {ts:List A} (hf:∀ t,t ∈ ts → Spec Tryz.prog f ([am t] ++ refs rs) l (bb (p t)) l):Spec Tryz.prog 180 [ams ts,.c (.clo f [] rs)] l (bb (ts.any p)) l:=by
 refine spec_ro (base:=1180000) hl ok1180 rfl fun σ h0 hro hr=>?_
 have s0:σ.sl 0=ams ts:=h0 0
 have s1:σ.sl 1=.c (.clo f [] rs):=h0 1
 simp only [ams] at s0
 clear h0 hr
 unfold c1180
 simp [s0,s1]
 refine ECall.ro (rs:=[]) (args:=[ams ts,.c (.clo f [] rs)]) l (by simpa [refs] using spi1192 hl hf) (by simp [ams,toD2,toD1,toD]) (by simp) rfl (hro.mono fun k=>by simp) fun hx=>?_
 simp [ib]
 exact EndU_ro (hro.mono fun k=>by simp) (by simp [r1180]) (by simp [r1180,bb,← idx_any (p:=p) (ts:=ts) (i:=0)])
theorem spi1182 {f:Nat} {rs:List (Nat × Nat)} {l:Objs} (hl:NoKeys l) {p:K → Bool} {ts:List K} (hf:∀ t,t ∈ ts → Spec Tryz.prog f ([km t] ++ refs rs) l (bb (p t)) l):Spec Tryz.prog 182 [kms ts,.c (.clo f [] rs)] l (ib (idx p 0 ts)) l:=by
 refine spec_ro (base:=1182000) hl ok1182 rfl fun σ h0 hro hr=>?_
 have s0:σ.sl 0=kms ts:=h0 0
 have s1:σ.sl 1=.c (.clo f [] rs):=h0 1
 have hlen:=real_kms (hr (kms ts) (by simp))
 simp only [kms] at s0
 clear h0 hr
 unfold c1182
 simp [s0,s1,-W_block]
 rw [W_block]
 refine W_loop (fun m σ=>∃ (i:Nat),i + m=ts.length ∧ idx p i (ts.drop i)=idx p 0 ts ∧ σ.sl 0=kms ts ∧ σ.sl 1=.c (.clo f [] rs) ∧ σ.sl 7=ib ts.length ∧ σ.sl 8=ib i ∧ Ro σ l) ts.length ?_ ?_
 ·exact ⟨0,by simp,by simp,by simp [s0,kms],by simp [s1],by simp [ib],by simp [ib],hro.mono fun k=>by simp⟩
 ·clear s0 s1 hro σ
  rintro m σ ⟨i,hm,hp,q0,q1,q7,q8,hro⟩
  unfold c1182b0
  simp only [kms,ib] at q0 q1 q7 q8
  by_cases hi:i < ts.length
  ·obtain ⟨t,ht⟩:=at_of hi
   obtain ⟨_,ht'⟩:=getE ht
   have w1:=wrap_succ (i:=i) (by omega)
   rw [drop_at ht,idx] at hp
   simp [q0,q1,q7,q8,hi,ht',K.cells]
   refine ECall.ro (args:=[km t]) l (hf t (List.mem_of_getElem? ht)) (by simp [km,K.cells]) (by simp) rfl (hro.mono fun k=>by simp) fun hx=>?_
   clear hx
   cases hd:p t with
   | true=>
    rw [hd] at hp
    simp [bb,q8]
    exact EndU_ro (hro.mono fun k=>by simp) (by simp [r1182]) (by simp [r1182,ib,← hp])
   | false=>
    rw [hd] at hp
    simp [bb,q8,w1]
    exact ⟨m - 1,by omega,i + 1,by omega,by simpa using hp,by simp [q0,kms],by simp [q1],by simp [q7,ib],by simp [ib],hro.mono fun k=>by simp⟩
  ·have:i=ts.length:=by omega
   subst this
   simp [idx] at hp
   simp [q0,q1,q7,q8]
   exact EndU_ro (hro.mono fun k=>by simp) (by simp [r1182]) (by simp [r1182,ib,← hp])
theorem spc1158 {f:Nat} {rs:List (Nat × Nat)} {l:Objs} (hl:NoKeys l) {p:K → Bool} {ts:List K} (hf:∀ t,t ∈ ts → Spec Tryz.prog f ([km t] ++ refs rs) l (bb (p t)) l):Spec Tryz.prog 158 [kms ts,.c (.clo f [] rs)] l (bb (ts.any p)) l:=by
 refine spec_ro (base:=1158000) hl ok1158 rfl fun σ h0 hro hr=>?_
 have s0:σ.sl 0=kms ts:=h0 0
 have s1:σ.sl 1=.c (.clo f [] rs):=h0 1
 simp only [kms] at s0
 clear h0 hr
 unfold c1158
 simp [s0,s1]
 refine ECall.ro (rs:=[]) (args:=[kms ts,.c (.clo f [] rs)]) l (by simpa [refs] using spi1182 hl hf) (by simp [kms,toD2,toD1,toD]) (by simp) rfl (hro.mono fun k=>by simp) fun hx=>?_
 simp [ib]
 exact EndU_ro (hro.mono fun k=>by simp) (by simp [r1158]) (by simp [r1158,bb,← idx_any (p:=p) (ts:=ts) (i:=0)])
end Go.Abs
