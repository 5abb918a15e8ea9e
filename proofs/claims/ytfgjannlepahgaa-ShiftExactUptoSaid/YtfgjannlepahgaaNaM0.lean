/- THIS TEXT TELLS SOME FUNCTIONS OF THE PROGRAM IN THE CALCULUS, PROVES BY THE KERNEL THAT WHAT IS TOLD IS THE LOADED CODE, AND PROVES WHAT THEY COMPUTE: for every argument that is told; the conditions stand in each theorem. -/
import Derived.Test.YtfgjannlepahgaaRows
import Derived.WalkKit
import Derived.ProofKit
import Derived.OpenShut
import Derived.JoinedCond
import Derived.Deep.Strs
import Derived.Deep.Slices
import Derived.Below
import Derived.Carry
import Derived.KernelRfl
import Derived.Test.YtfgjannlepahgaaProg
import Derived.Test.YtfgjannlepahgaaNaAM2
set_option linter.unusedVariables false
set_option linter.unusedSimpArgs false
namespace Go.Abs
inductive T where
 | mk (k n:Int) (kids:List T)
 deriving Inhabited
mutual
def T.cells:T → List Cell
 | .mk k n ts=>[.v (.int .i64 k),.v (.int .i64 n),.sl 3 40 (T.cellsL ts)]
def T.cellsL:List T → List (List Cell)
 | []=>[]
 | t :: ts=>T.cells t :: T.cellsL ts
end
theorem cellsL_map:∀ ts:List T,T.cellsL ts=ts.map T.cells
 | []=>by simp [T.cellsL]
 | t :: ts=>by simp [T.cellsL,cellsL_map ts]
theorem cells_mk (k n:Int) (ts:List T):T.cells (.mk k n ts)=[.v (.int .i64 k),.v (.int .i64 n),.sl 3 40 (ts.map T.cells)]:=by rw [T.cells,cellsL_map]
def T.kind:T → Int | .mk k _ _=>k
def T.val:T → Int | .mk _ n _=>n
def T.kids:T → List T | .mk _ _ ts=>ts
@[simp] theorem kind_mk (k n:Int) (ts:List T):(T.mk k n ts).kind=k:=rfl
@[simp] theorem val_mk (k n:Int) (ts:List T):(T.mk k n ts).val=n:=rfl
@[simp] theorem kids_mk (k n:Int) (ts:List T):(T.mk k n ts).kids=ts:=rfl
theorem cells_eq (t:T):t.cells=[.v (.int .i64 t.kind),.v (.int .i64 t.val),.sl 3 40 (t.kids.map T.cells)]:=by cases t;exact cells_mk _ _ _
@[simp] theorem cells_len (t:T):t.cells.length=3:=by rw [cells_eq];rfl
@[simp] theorem cells_take (t:T):t.cells.take 3=t.cells:=by rw [cells_eq];rfl
@[simp] theorem cells_toD (σ:St) (t:T):t.cells.map (toD σ)=t.cells:=by rw [cells_eq];rfl
@[simp] theorem cells_keys (t:T):keysCs t.cells=[]:=by rw [cells_eq];rfl
theorem cells_isD (t:T):t.cells.all Cell.isD=true:=by rw [cells_eq];rfl
@[simp] theorem cells_isD' (t:T) (c:Cell) (h:c ∈ t.cells):c.isD=true:=List.all_eq_true.1 (cells_isD t) c h
@[simp] theorem putC_all (t:T) (a b c:Cell):putC [a,b,c] 0 t.cells=t.cells:=by rw [cells_eq];rfl
def tm (t:T):AV:=.agg t.cells
def tms (ts:List T):AV:=.c (.sl 3 40 (ts.map T.cells))
def ib (n:Int):AV:=.c (.v (.int .i64 n))
def bb (b:Bool):AV:=.c (.v (.bool b))
@[simp] theorem tm_un (t:T):un (tm t)=tm t:=rfl
@[simp] theorem tms_un (t:List T):un (tms t)=tms t:=rfl
theorem real_sl {sz bs:Nat} {es:List (List Cell)} (h:Real (.c (.sl sz bs es))):es.length * bs ≤ room:=by
 obtain ⟨g,w,v,h⟩:=h
 have h:=h (by simp)
 cases h with
 | sl _ _ _ a c vs h1 h2 h3 h4 h5=>exact h2
theorem real_tms {ts:List T} (h:Real (tms ts)):ts.length * 40 ≤ 140737488355328:=by simpa [room] using real_sl h
theorem real_kids {t:T} (h:Real (tm t)):t.kids.length * 40 ≤ 140737488355328:=by
 obtain ⟨g,w,v,h⟩:=h
 obtain ⟨vs,_,h⟩:=h
 rw [cells_eq] at h
 obtain ⟨v2,_,h2⟩:=h.get 2 _ rfl
 have h2:RD g w _ v2:=h2
 cases h2 with
 | sl _ _ _ a c vs h1 h6 h3 h4 h5=>simpa [room] using h6
theorem wrap_id {a:Int} (h1:-9223372036854775808 ≤ a) (h2:a < 9223372036854775808):IntKind.wrap .i64 a=a:=by
 simp only [IntKind.wrap,IntKind.bits,IntKind.signed,Bool.true_and]
 by_cases h0:0 ≤ a
 ·have h3:a % (2 ^ 64:Int)=a:=Int.emod_eq_of_lt h0 (by omega)
  simp only [h3]
  split
  ·rename_i h;simp at h;omega
  ·rfl
 ·have h3:a % (2 ^ 64:Int)=a + 2 ^ 64:=by
   rw [← Int.add_emod_right a (2 ^ 64)]
   exact Int.emod_eq_of_lt (by omega) (by omega)
  simp only [h3]
  split
  ·omega
  ·rename_i h;simp at h;omega
theorem slots0 (x:AV) (l:List AV):slotsOf (x :: l) 0=x:=rfl
theorem slots1 (x y:AV) (l:List AV):slotsOf (x :: y :: l) 1=y:=rfl
theorem slots2 (x y z:AV) (l:List AV):slotsOf (x :: y :: z :: l) 2=z:=rfl
attribute [simp] rrGok resOf resL rrEv isV1
theorem T.ind {p:T → Prop} (h:∀ k n ts,(∀ t,t ∈ ts → p t) → p (.mk k n ts)) (t:T):p t:=by
 have key:∀ (m:Nat) (t:T),SizeOf.sizeOf t < m → p t:=by
  intro m
  induction m with
  | zero=>intro t ht;omega
  | succ m ih=>
   intro t ht
   obtain ⟨k,n,ts⟩:=t
   refine h k n ts fun u hu=>ih u ?_
   have:=List.sizeOf_lt_of_mem hu
   simp at ht
   omega
 exact key _ t (Nat.lt_succ_self _)
theorem drop_at {α:Type}:∀ {ts:List α} {i:Nat} {t:α},ts[i]? = some t → ts.drop i=t :: ts.drop (i + 1)
 | t :: ts,0,_,h=>by simp at h;simp [h]
 | t :: ts,i + 1,t',h=>by simpa using drop_at (ts:=ts) (by simpa using h)
 | [],_,_,h=>by simp at h
theorem getE {α:Type} {ts:List α} {i:Nat} {t:α} (h:ts[i]? = some t):∃ hi:i < ts.length,ts[i]=t:=List.getElem?_eq_some_iff.1 h
theorem at_of {α:Type} {ts:List α} {i:Nat} (h:i < ts.length):∃ t,ts[i]? = some t:=⟨ts[i],by simp [h]⟩
theorem wrap_succ {i:Nat} (h:i < 9223372036854775807):IntKind.wrap .i64 ((i:Int) + 1)=((i + 1:Nat):Int):=by rw [wrap_id (by omega) (by omega)];rfl
def kidsOf (k:Int):Int:=if k=1 then 0 else if k=2 then 0 else if k=3 then 0 else if k=9 then 1 else if k=10 then 1 else if k=8 then 3 else if k=11 then 3 else if k=13 then 3 else if 1 ≤ k ∧ k ≤ 13 then 2 else -1
def badHead (k n:Int) (len:Nat):Bool:=((((decide (kidsOf k < 0) || !decide ((len:Int)=kidsOf k)) || decide (n < 0)) || decide (65535 < n)) || (decide (0 < kidsOf k) && !decide (n=0)))
mutual
def T.formed:T → Bool
 | .mk k n ts=>!badHead k n ts.length && T.formedL ts
def T.formedL:List T → Bool
 | []=>true
 | t :: ts=>T.formed t && T.formedL ts
end
theorem formedL_all:∀ ts:List T,T.formedL ts=ts.all T.formed
 | []=>by simp [T.formedL]
 | t :: ts=>by simp [T.formedL,formedL_all ts]
def is (ns:List Int):AV:=.c (.sl 1 8 (ns.map fun n=>[.v (.int .i64 n)]))
theorem real_is {ns:List Int} (h:Real (is ns)):ns.length * 8 ≤ 140737488355328:=by simpa [room] using real_sl h
def bindsOf (k i:Int):Int:=if i=1 ∧ (k=4 ∨ k=5 ∨ k=7) then 1 else 0
mutual
def T.size:T → Int
 | .mk _ _ ts=>T.sizeL 1 ts
def T.sizeL:Int → List T → Int
 | a,[]=>a
 | a,t :: ts=>T.sizeL (IntKind.wrap .i64 (a + T.size t)) ts
end
mutual
def T.depth:T → Int
 | .mk _ _ ts=>IntKind.wrap .i64 (T.depthL 0 ts + 1)
def T.depthL:Int → List T → Int
 | a,[]=>a
 | a,t :: ts=>T.depthL (best2 true a (T.depth t)) ts
end
def T.check (t:T):Int:=if 6000 < t.size then 4 else if 200 < t.depth then 5 else if t.formed then 0 else 1
mutual
def T.count:T → Nat
 | .mk _ _ ts=>T.countL ts + 1
def T.countL:List T → Nat
 | []=>0
 | t :: ts=>T.count t + T.countL ts
end
theorem size_count (t:T):t.count < 4611686018427387904 → t.size=t.count:=by
 induction t using T.ind with
 | h k n ts ih=>
  intro h
  have key:∀ (ts:List T) (a:Nat),(∀ t,t ∈ ts → t.count < 4611686018427387904 → t.size=t.count) → a + T.countL ts < 4611686018427387904 → T.sizeL (a:Int) ts=((a + T.countL ts:Nat):Int):=by
   intro ts
   induction ts with
   | nil=>intro a _ _;simp [T.sizeL,T.countL]
   | cons t ts ih2=>
    intro a h1 h2
    simp only [T.countL] at h2
    have ht:=h1 t (by simp) (by omega)
    have hw:IntKind.wrap .i64 ((a:Int) + t.size)=((a + t.count:Nat):Int):=by
     rw [ht,wrap_id (by omega) (by omega)];simp
    rw [T.sizeL,hw,ih2 (a + t.count) (fun u hu=>h1 u (by simp [hu])) (by omega)]
    simp [T.countL];omega
  simp only [T.count] at h ⊢
  have:=key ts 1 ih (by omega)
  rw [T.size]
  have e:((1:Nat):Int)=1:=rfl
  rw [e] at this
  rw [this]
  simp;omega
@[simp] theorem bestL_2 (mx:Bool) (k:IntKind) (a b:Int):bestL mx k a [.c (.v (.int k b))]=some (best2 mx a b):=by simp [bestL]
@[simp] theorem bestL_gd (mx:Bool) (k:IntKind) (a b:Int) (β:Bool):bestL mx k a [.gd β (.c (.v (.int k b)))]=some (best2 mx a b):=by simp [bestL]
mutual
def T.wf:T → Bool
 | .mk k n ts=>decide (-9223372036854775808 ≤ n ∧ n < 9223372036854775808) && T.wfL ts
def T.wfL:List T → Bool
 | []=>true
 | t :: ts=>T.wf t && T.wfL ts
end
theorem wfL_all:∀ ts:List T,T.wfL ts=ts.all T.wf
 | []=>by simp [T.wfL]
 | t :: ts=>by simp [T.wfL,wfL_all ts]
end Go.Abs

namespace Go.Abs
open Go.Proofs Go.Proofs.Ytfgjannlepahgaa Go.RowKit
def gOf (w:World):Gh:=⟨fun b _=>b < w.heap.size,fun _=>0,fun _=>.nilFunc,fun _=>0,w.heap.size⟩
theorem cell_lt {w:World} {a:Addr} {x:Value} (h:w.cell? a=some x):a.block < w.heap.size:=by
 unfold World.cell? at h
 by_cases hb:a.block < w.heap.size
 ·exact hb
 ·rw [Array.getElem?_eq_none (by omega)] at h;cases h
theorem bulk_one {H:Type} (d:DataW H):1 ≤ Rows.uptoBulk d:=by
 cases d with
 | lit l=>cases l <;> simp [Rows.uptoBulk]
 | _=>simp [Rows.uptoBulk]
theorem bulk_all_len {H:Type}:∀ (l:List (DataW H)),l.length ≤ Rows.uptoBulkAll l
 | []=>by simp [Rows.uptoBulkAll]
 | d :: l=>by
  have:=bulk_all_len l
  have h1:=bulk_one d
  simp [Rows.uptoBulkAll];omega
theorem bulk_mem {H:Type} {d:DataW H}:∀ {l:List (DataW H)},d ∈ l → Rows.uptoBulk d ≤ Rows.uptoBulkAll l
 | e :: l,h=>by
  rcases List.mem_cons.1 h with rfl | h
  ·simp [Rows.uptoBulkAll]
  ·have:=bulk_mem h;simp [Rows.uptoBulkAll];omega
theorem cell24:Try.prog.cellsOf 24=3:=by kernel_rfl
theorem cell22:Try.prog.cellsOf 22=1:=by kernel_rfl
theorem cell3:Try.prog.cellsOf 3=1:=by kernel_rfl
theorem countL_append:∀ (l r:List T),T.countL (l ++ r)=T.countL l + T.countL r
 | [],r=>by simp [T.countL]
 | t :: l,r=>by simp [T.countL,countL_append l r];omega
theorem bulkAll_append {H:Type}:∀ (l r:List (DataW H)),Rows.uptoBulkAll (l ++ r)=Rows.uptoBulkAll l + Rows.uptoBulkAll r
 | [],r=>by simp [Rows.uptoBulkAll]
 | t :: l,r=>by simp [Rows.uptoBulkAll,bulkAll_append l r];omega
theorem three {α:Type}:∀ {l:List α},l.length=3 → ∃ a b c,l=[a,b,c]
 | [a,b,c],_=>⟨a,b,c,rfl⟩
theorem wf_int {m:Int} (h:(Lit.int .i64 m).wf=true):-9223372036854775808 ≤ m ∧ m < 9223372036854775808:=by
 simp [Lit.wf,IntKind.min,IntKind.max,IntKind.bits,IntKind.signed] at h
 omega
theorem term_reads {H:Type} {enc:TypeId × Value → H} {w:World} {B:Nat} (hroom:B * 40 ≤ room):∀ (N:Nat) {fuel:Nat} {cs:List Value} {x:DataW H × List MemPlace},DataW.trod enc Try.prog w 0 (fun _=>true) true fuel 24 cs=some x →
  Rows.uptoBulk x.1 ≤ N → Rows.uptoBulk x.1 ≤ B → ∃ t:T,All2 (RC (gOf w) w) t.cells cs ∧ t.count ≤ Rows.uptoBulk x.1 ∧ t.wf=true:=by
 intro N
 induction N with
 | zero=>intro fuel cs x h hb _;have:=bulk_one x.1;omega
 | succ N ih=>
  intro fuel cs x h hb hB
  obtain ⟨y0,y1,y2,n,rfl,hlen,h0,h1,h2⟩:=Go.Deep.trod_struct3 Try.underlying24 h
  rw [cell24] at hlen
  obtain ⟨v0,v1,v2,rfl⟩:=three hlen
  simp only [cell3,cell22,List.drop_zero,List.drop_succ_cons,List.take_succ_cons,List.take_zero] at h0 h1 h2
  obtain ⟨k,e0,rfl,_⟩:=DataW.trod_int Try.underlying3 h0
  obtain ⟨m,e1,rfl,hw1⟩:=DataW.trod_int Try.underlying3 h1
  cases e0;cases e1
  have hwm:=wf_int hw1
  simp only [Rows.uptoBulk,Rows.uptoBulkAll] at hb hB
  rcases Go.Deep.open_slice Try.underlying22 h2 with ⟨e2,rfl⟩ | ⟨a,len,cap,mm,nn,D,Pl,e2,_,hl,_,hm,rfl,hel⟩
  ·cases e2
   refine ⟨.mk k m [],?_⟩
   rw [cells_mk]
   exact ⟨⟨.v _ rfl,.v _ rfl,(nil_spec (gOf w) w 3 40).1,trivial⟩,by simp [T.count,T.countL,Rows.uptoBulk,Rows.uptoBulkAll],by simp [T.wf,T.wfL,hwm]⟩
  ·cases e2
   simp only [if_true] at hm
   subst hm
   simp only [Rows.uptoBulk] at hb hB
   have hlen2:len ≤ B:=by
    have:=bulk_all_len ((List.range len).map D)
    simp at this
    omega
   have hk:∀ i,∃ (t:T) (us:List Value),i < len → w.cells? 0 (a.add (i * 3)) 3=some us ∧ All2 (RC (gOf w) w) t.cells us ∧ t.count ≤ Rows.uptoBulk (D i) ∧ t.wf=true:=fun i=>by
    by_cases hi:i < len
    ·obtain ⟨us,hu1,hu2⟩:=hel i (by omega)
     rw [cell24] at hu1
     have hD:D i ∈ (List.range len).map D:=List.mem_map.2 ⟨i,by simpa using hi,rfl⟩
     have hle:=bulk_mem hD
     obtain ⟨t,ht,hc,hw⟩:=ih hu2 (by simp only;omega) (by simp only;omega)
     exact ⟨t,us,fun _=>⟨hu1,ht,hc,hw⟩⟩
    ·exact ⟨default,[],fun h=>absurd h hi⟩
   refine ⟨.mk k m ((List.range len).map fun i=>Classical.choose (hk i)),?_⟩
   rw [cells_mk]
   refine ⟨⟨.v _ rfl,.v _ rfl,?_,trivial⟩,?_,?_⟩
   rotate_left
   ·have hsum:∀ m,m ≤ len → T.countL ((List.range m).map fun i=>Classical.choose (hk i)) ≤ Rows.uptoBulkAll ((List.range m).map D):=by
     intro m
     induction m with
     | zero=>intro _;simp [T.countL]
     | succ m ihm=>
      intro hm
      have h1:=ihm (by omega)
      obtain ⟨us,h2⟩:=Classical.choose_spec (hk m)
      have h3:=(h2 (by omega)).2.2.1
      rw [List.range_succ,List.map_append,List.map_append,countL_append,bulkAll_append]
      simp [T.countL,Rows.uptoBulkAll]
      omega
    have:=hsum len (Nat.le_refl _)
    simp only [T.count,Rows.uptoBulk,Rows.uptoBulkAll]
    omega
   ·simp only [T.wf,wfL_all,Bool.and_eq_true,List.all_eq_true]
    refine ⟨by simpa using hwm,fun t ht=>?_⟩
    obtain ⟨i,hi,rfl⟩:=List.mem_map.1 ht
    obtain ⟨us,h2⟩:=Classical.choose_spec (hk i)
    exact (h2 (by simpa using hi)).2.2.2
   have hspec:∀ i,i < len → ∃ us,w.cells? 0 (a.add (i * 3)) 3=some us ∧ All2 (RC (gOf w) w) (Classical.choose (hk i)).cells us:=fun i hi=>by
    obtain ⟨us,h⟩:=Classical.choose_spec (hk i)
    exact ⟨us,(h hi).1,(h hi).2.1⟩
   have hat:∀ i j,∃ v,i < len → j < 3 → ∀ d,(Classical.choose (hk i)).cells[j]? = some d → w.cell? (a.add (i * 3 + j))=some v ∧ RC (gOf w) w d v:=fun i j=>by
    by_cases hi:i < len
    ·obtain ⟨us,hu,hall⟩:=hspec i hi
     by_cases hj:j < 3
     ·have hul:us.length=3:=by have:=hall.length;simpa using this.symm
      refine ⟨us[j]'(by omega),fun _ _ d hd=>?_⟩
      unfold World.cells? at hu
      rw [if_pos (Nat.zero_le _)] at hu
      have hg:=mapM_some_get hu j j (by simp [hj])
      rw [List.getElem?_eq_getElem (by omega)] at hg
      rw [Addr.add_add] at hg
      obtain ⟨b,hb1,hb2⟩:=hall.get j d hd
      rw [List.getElem?_eq_getElem (by omega)] at hb1
      cases hb1
      exact ⟨hg,hb2⟩
     ·exact ⟨undef,fun _ h=>absurd h hj⟩
    ·exact ⟨undef,fun h=>absurd h hi⟩
   have hes:∀ (i j:Nat) l d,(((List.range len).map fun i=>Classical.choose (hk i)).map T.cells)[i]? = some l → l[j]? = some d → i < len ∧ j < 3 ∧ (Classical.choose (hk i)).cells[j]? = some d:=fun i j l d e1 e2=>by
    simp only [List.getElem?_map,Option.map_eq_some_iff,List.getElem?_eq_some_iff] at e1
    obtain ⟨t,⟨i',⟨hi',e3⟩,rfl⟩,rfl⟩:=e1
    simp at e3 hi'
    subst e3
    have hj:=(List.getElem?_eq_some_iff.1 e2).1
    rw [cells_len] at hj
    exact ⟨hi',hj,e2⟩
   have key:RD (gOf w) w (.sl 3 40 (((List.range len).map fun i=>Classical.choose (hk i)).map T.cells)) (.slice (some a) (((List.range len).map fun i=>Classical.choose (hk i)).map T.cells).length mm):=by
    refine .sl 3 40 _ (some a) mm (fun i j=>Classical.choose (hat i j)) (by simpa using hl) (by simp;omega) (fun l hl=>?_) (fun i j l d e1 e2=>?_) (fun i j l d e1 e2=>?_)
    ·obtain ⟨t,_,rfl⟩:=List.mem_map.1 hl
     exact cells_len t
    ·obtain ⟨hi,hj,hd⟩:=hes i j l d e1 e2
     have:=(Classical.choose_spec (hat i j) hi hj d hd).1
     exact ⟨_,rfl,cell_lt this,this⟩
    ·obtain ⟨hi,hj,hd⟩:=hes i j l d e1 e2
     have:=(Classical.choose_spec (hat i j) hi hj d hd).2
     exact isD_spec this (cells_isD' _ d (List.mem_of_getElem? hd))
   have key2:RC (gOf w) w (.sl 3 40 (((List.range len).map fun i=>Classical.choose (hk i)).map T.cells)) (.slice (some a) (((List.range len).map fun i=>Classical.choose (hk i)).map T.cells).length mm):=key
   simpa using key2
theorem arg_termW {H:Type} {enc:TypeId × Value → H} {w:World} {v:Value} {d:DataW H} {ps:List MemPlace} (h:DataW.Trod enc Try.prog w 0 (fun _=>true) true 24 v d ps) (hv:∃ cs,v=.agg cs) (hb:Rows.uptoBulk d ≤ 1048576) :
  ∃ t:T,RV2 (gOf w) w (tm t) v ∧ t.count ≤ 1048576 ∧ t.wf=true:=by
 obtain ⟨fuel,h⟩:=h
 obtain ⟨cs,rfl⟩:=hv
 obtain ⟨t,ht,hc,hw⟩:=term_reads (B:=1048576) (by simp [room]) _ h (Nat.le_refl _) hb
 exact ⟨t,⟨cs,rfl,ht⟩,Nat.le_trans hc hb,hw⟩
end Go.Abs

namespace Go.Abs
def c17b0:SCode:=
 .seq (.seq (.reg [m_ 8 4,m_ 9 0,o_ 10 (.len 22 (.t 9)),o_ 11 (.bin .lss (.t 8) (.t 10))]) (.cond (.t 11) (.skip) (.exit 0))) (.seq (.block 1 (.seq (.seq (.reg [m_ 14 0,m_ 15 4,o_ 16 (.iad 24 3 (.t 14) (.t 15)),o_ 17 (.ldn 24 3 (.t 16)),o_ 18 (.call (.f 15) [.t 17]),o_ 19 (.bin .gtr (.t 18) (.k (.int .i64 300)))]) (.cond (.t 19) (.seq (.reg [o_ 2 (.mv (.k (.bool true)))]) (.ret)) (.skip))) (.reg [m_ 20 3,m_ 21 0,m_ 22 4,o_ 23 (.iad 24 3 (.t 21) (.t 22)),o_ 24 (.ldn 24 3 (.t 23)),o_ 25 (.call (.f 16) [.t 24]),o_ 26 (.bin .add (.t 20) (.t 25)),m_ 3 26]))) (.reg [m_ 12 4,o_ 13 (.bin .add (.t 12) (.k (.int .i64 1))),m_ 4 13]))
def c17:SCode:=
 .seq (.reg [o_ 2 (.mv (.k (.bool false)))]) (.seq (.seq (.reg [m_ 5 0,o_ 6 (.len 22 (.t 5)),o_ 7 (.bin .gtr (.t 6) (.k (.int .i64 60)))]) (.cond (.t 7) (.seq (.reg [o_ 2 (.mv (.k (.bool true)))]) (.ret)) (.skip))) (.seq (.reg [o_ 3 (.mv (.k (.int .i64 0)))]) (.seq (.seq (.reg [o_ 4 (.mv (.k (.int .i64 0)))]) (.block 0 (.loop c17b0))) (.seq (.reg [m_ 27 3,o_ 28 (.bin .gtr (.t 27) (.k (.int .i64 9000))),m_ 2 28]) (.ret)))))
def r17:List RR:=[.t 2]
theorem ok17:okFn Go.Proofs.Try.prog 4 29 c17 r17 1=true:=by kernel_rfl
def c19:SCode:=
 .seq (.reg [o_ 1 (.box 24 (.t 0)),o_ 2 (.alloc 24 [.v (.int .i64 0),.v (.int .i64 0),.cap 3 40 []])]) (.seq (.dreg [0,1,0,4,0,16,48,127,255] [o_ 3 (.fad 24 0 0 (.t 1)),o_ 4 (.ld1 3 (.t 3)),o_ 5 (.fad 24 1 1 (.t 1)),o_ 6 (.ld1 3 (.t 5)),o_ 7 (.fad 24 2 2 (.t 1)),o_ 8 (.ld1 22 (.t 7)),o_ 9 (.call (.f 17) [.t 8]),o_ 10 (.build 24 [.v (.int .i64 0),.v (.int .i64 0),.cap 3 40 []] [(0,0,1,.t 4),(1,1,1,.t 6),(2,2,1,.t 9)]),n_ (.stn 24 3 (.t 2) (.t 10))]) (.ret))
def r19:List RR:=[.cn 2 3]
theorem ok19:okFn Go.Proofs.Try.prog 5 11 c19 r19 1=true:=by kernel_rfl
def c20b0:SCode:=
 .seq (.reg [o_ 10 (.bin .lss (.t 9) (.t 8))]) (.seq (.cond (.t 10) (.skip) (.exit 0)) (.seq (.block 1 (.seq (.reg [o_ 11 (.iad 24 3 (.t 7) (.t 9)),o_ 12 (.ldn 24 3 (.t 11)),o_ 5 (.alloc 24 [.v (.int .i64 0),.v (.int .i64 0),.cap 3 40 []]),n_ (.stn 24 3 (.t 5) (.t 12))]) (.reg [m_ 13 3,o_ 14 (.ldn 24 3 (.t 5)),o_ 15 (.call (.f 33) [.t 14]),o_ 16 (.bin .add (.t 13) (.t 15)),m_ 3 16]))) (.reg [o_ 17 (.bin .add (.t 9) (.k (.int .i64 1))),m_ 9 17])))
def c20:SCode:=
 .seq (.reg [o_ 1 (.box 24 (.t 0)),o_ 2 (.mv (.k (.int .i64 0)))]) (.seq (.reg [o_ 3 (.mv (.k (.int .i64 1)))]) (.seq (.seq (.reg [o_ 6 (.fad 24 2 2 (.t 1)),o_ 7 (.ld1 22 (.t 6)),o_ 8 (.len 22 (.t 7)),o_ 9 (.mv (.k (.int .i64 0)))]) (.block 0 (.loop c20b0))) (.seq (.reg [m_ 18 3,m_ 2 18]) (.ret))))
def r20:List RR:=[.t 2]
theorem ok20:okFn Go.Proofs.Try.prog 33 19 c20 r20 1=true:=by kernel_rfl
def c21b0:SCode:=
 .seq (.reg [o_ 10 (.bin .lss (.t 9) (.t 8))]) (.seq (.cond (.t 10) (.skip) (.exit 0)) (.seq (.block 1 (.seq (.reg [o_ 11 (.iad 24 3 (.t 7) (.t 9)),o_ 12 (.ldn 24 3 (.t 11)),o_ 5 (.alloc 24 [.v (.int .i64 0),.v (.int .i64 0),.cap 3 40 []]),n_ (.stn 24 3 (.t 5) (.t 12))]) (.reg [m_ 13 3,o_ 14 (.ldn 24 3 (.t 5)),o_ 15 (.call (.f 34) [.t 14]),o_ 16 (.best true [.t 13,.t 15]),m_ 3 16]))) (.reg [o_ 17 (.bin .add (.t 9) (.k (.int .i64 1))),m_ 9 17])))
def c21:SCode:=
 .seq (.reg [o_ 1 (.box 24 (.t 0)),o_ 2 (.mv (.k (.int .i64 0)))]) (.seq (.reg [o_ 3 (.mv (.k (.int .i64 0)))]) (.seq (.seq (.reg [o_ 6 (.fad 24 2 2 (.t 1)),o_ 7 (.ld1 22 (.t 6)),o_ 8 (.len 22 (.t 7)),o_ 9 (.mv (.k (.int .i64 0)))]) (.block 0 (.loop c21b0))) (.seq (.reg [m_ 18 3,o_ 19 (.bin .add (.t 18) (.k (.int .i64 1))),m_ 2 19]) (.ret))))
def r21:List RR:=[.t 2]
theorem ok21:okFn Go.Proofs.Try.prog 34 20 c21 r21 1=true:=by kernel_rfl
def c28b0:SCode:=
 .seq (.seq (.reg [m_ 5 4,o_ 6 (.fad 24 2 2 (.t 1)),o_ 7 (.ld1 22 (.t 6)),o_ 8 (.len 22 (.t 7)),o_ 9 (.bin .lss (.t 5) (.t 8))]) (.cond (.t 9) (.skip) (.exit 0))) (.seq (.block 1 (.reg [m_ 12 3,o_ 13 (.fad 24 2 2 (.t 1)),o_ 14 (.ld1 22 (.t 13)),m_ 15 4,o_ 16 (.iad 24 3 (.t 14) (.t 15)),o_ 17 (.ldn 24 3 (.t 16)),o_ 18 (.call (.f 16) [.t 17]),o_ 19 (.bin .add (.t 12) (.t 18)),m_ 3 19])) (.reg [m_ 10 4,o_ 11 (.bin .add (.t 10) (.k (.int .i64 1))),m_ 4 11]))
def c28:SCode:=
 .seq (.reg [o_ 1 (.box 24 (.t 0)),o_ 2 (.mv (.k (.int .i64 0)))]) (.seq (.reg [o_ 3 (.mv (.k (.int .i64 1)))]) (.seq (.seq (.reg [o_ 4 (.mv (.k (.int .i64 0)))]) (.block 0 (.loop c28b0))) (.seq (.reg [m_ 20 3,m_ 2 20]) (.ret))))
def r28:List RR:=[.t 2]
theorem ok28:okFn Go.Proofs.Try.prog 16 21 c28 r28 1=true:=by kernel_rfl
def c29b0:SCode:=
 .seq (.seq (.reg [m_ 5 4,o_ 6 (.fad 24 2 2 (.t 1)),o_ 7 (.ld1 22 (.t 6)),o_ 8 (.len 22 (.t 7)),o_ 9 (.bin .lss (.t 5) (.t 8))]) (.cond (.t 9) (.skip) (.exit 0))) (.seq (.block 1 (.reg [m_ 12 3,o_ 13 (.fad 24 2 2 (.t 1)),o_ 14 (.ld1 22 (.t 13)),m_ 15 4,o_ 16 (.iad 24 3 (.t 14) (.t 15)),o_ 17 (.ldn 24 3 (.t 16)),o_ 18 (.call (.f 15) [.t 17]),o_ 19 (.best true [.t 12,.t 18]),m_ 3 19])) (.reg [m_ 10 4,o_ 11 (.bin .add (.t 10) (.k (.int .i64 1))),m_ 4 11]))
def c29:SCode:=
 .seq (.reg [o_ 1 (.box 24 (.t 0)),o_ 2 (.mv (.k (.int .i64 0)))]) (.seq (.reg [o_ 3 (.mv (.k (.int .i64 0)))]) (.seq (.seq (.reg [o_ 4 (.mv (.k (.int .i64 0)))]) (.block 0 (.loop c29b0))) (.seq (.reg [m_ 20 3,o_ 21 (.bin .add (.t 20) (.k (.int .i64 1))),m_ 2 21]) (.ret))))
def r29:List RR:=[.t 2]
theorem ok29:okFn Go.Proofs.Try.prog 15 22 c29 r29 1=true:=by kernel_rfl
def c64b0:SCode:=
 .seq (.seq (.reg [m_ 5 4,m_ 6 0,o_ 7 (.len 22 (.t 6)),o_ 8 (.bin .lss (.t 5) (.t 7))]) (.cond (.t 8) (.skip) (.exit 0))) (.seq (.block 1 (.reg [m_ 11 3,m_ 12 0,m_ 13 4,o_ 14 (.iad 24 3 (.t 12) (.t 13)),o_ 15 (.ldn 24 3 (.t 14)),o_ 16 (.call (.f 5) [.t 15]),o_ 17 (.lit 24 3 40 [.t 16]),o_ 18 (.app 24 3 40 (.t 11) (.t 17)),m_ 3 18])) (.reg [m_ 9 4,o_ 10 (.bin .add (.t 9) (.k (.int .i64 1))),m_ 4 10]))
def c64:SCode:=
 .seq (.reg [o_ 2 (.mv (.nil 3 40))]) (.seq (.reg [o_ 3 (.mv (.nil 3 40))]) (.seq (.seq (.reg [o_ 4 (.mv (.k (.int .i64 0)))]) (.block 0 (.loop c64b0))) (.seq (.reg [m_ 19 3,m_ 2 19]) (.ret))))
def r64:List RR:=[.t 2]
theorem ok64:okFn Go.Proofs.Try.prog 17 20 c64 r64 1=true:=by kernel_rfl
end Go.Abs

namespace Go.Abs
open Go.Proofs
def all2 {α:Type} (p:α → α → Bool):List α → List α → Bool
 | [],[]=>true
 | t :: ts,u :: us=>p t u && all2 p ts us
 | _,_=>false
theorem all2_len {α:Type} {p:α → α → Bool}:∀ {ts us:List α},ts.length ≠ us.length → all2 p ts us=false
 | [],[],h=>absurd rfl h
 | t :: ts,u :: us,h=>by simp [all2,all2_len (p:=p) (ts:=ts) (us:=us) (by simpa using h)]
 | [],_ :: _,_=>rfl
 | _ :: _,[],_=>rfl
theorem all2_at {α:Type} {p:α → α → Bool}:∀ {ts us:List α} {i:Nat} {t u:α},ts.length=us.length → ts[i]? = some t → us[i]? = some u → (all2 p (ts.drop i) (us.drop i)=(p t u && all2 p (ts.drop (i + 1)) (us.drop (i + 1))))
 | t :: ts,u :: us,0,t',u',_,h1,h2=>by simp at h1 h2;subst h1;subst h2;simp [all2]
 | t :: ts,u :: us,i + 1,t',u',hl,h1,h2=>by simpa using all2_at (p:=p) (by simpa using hl) (by simpa using h1) (by simpa using h2)
 | [],_,_,_,_,_,h1,_=>by simp at h1
 | _ :: _,[],_,_,_,_,_,h2=>by simp at h2
mutual
def T.eqb:T → T → Bool
 | .mk k n ts,.mk k' n' us=>decide (k=k') && decide (n=n') && T.eqbL ts us
def T.eqbL:List T → List T → Bool
 | [],[]=>true
 | t :: ts,u :: us=>T.eqb t u && T.eqbL ts us
 | _,_=>false
end
theorem eqbL_all2:∀ {ts us:List T},T.eqbL ts us=all2 T.eqb ts us
 | [],[]=>by simp [T.eqbL,all2]
 | t :: ts,u :: us=>by simp [T.eqbL,all2,eqbL_all2 (ts:=ts)]
 | [],_ :: _=>by simp [T.eqbL,all2]
 | _ :: _,[]=>by simp [T.eqbL,all2]
end Go.Abs

namespace Go.Abs
def c45:SCode:=
 .seq (.reg [o_ 2 (.box 24 (.t 0)),o_ 3 (.box 24 (.t 1)),o_ 4 (.mv (.k (.bool false)))]) (.seq (.reg [o_ 5 (.fad 24 0 0 (.t 2)),o_ 6 (.ld1 3 (.t 5)),o_ 7 (.fad 24 0 0 (.t 3)),o_ 8 (.ld1 3 (.t 7)),o_ 9 (.bin .eql (.t 6) (.t 8)),m_ 10 9,p_ 11 10 (.fad 24 1 1 (.t 2)),p_ 12 10 (.ld1 3 (.t 11)),p_ 13 10 (.fad 24 1 1 (.t 3)),p_ 14 10 (.ld1 3 (.t 13)),p_ 15 10 (.bin .eql (.t 12) (.t 14)),o_ 16 (.pick (.t 10) (.t 15) (.k (.bool false))),m_ 17 16,p_ 18 17 (.fad 24 2 2 (.t 2)),p_ 19 17 (.ld1 22 (.t 18)),p_ 20 17 (.fad 24 2 2 (.t 3)),p_ 21 17 (.ld1 22 (.t 20)),p_ 22 17 (.call (.f 28) [.t 19,.t 21]),o_ 23 (.pick (.t 17) (.t 22) (.k (.bool false))),m_ 4 23]) (.ret))
def r45:List RR:=[.t 4]
theorem ok45:okFn Go.Proofs.Try.prog 10 24 c45 r45 2=true:=by kernel_rfl
def c96b0:SCode:=
 .seq (.seq (.reg [m_ 11 5,m_ 12 0,o_ 13 (.len 22 (.t 12)),o_ 14 (.bin .lss (.t 11) (.t 13))]) (.cond (.t 14) (.skip) (.exit 0))) (.seq (.block 1 (.seq (.dreg [0,0,3,7,0,0,48,112,255,511] [m_ 17 0,m_ 18 5,o_ 19 (.iad 24 3 (.t 17) (.t 18)),o_ 20 (.ldn 24 3 (.t 19)),m_ 21 1,m_ 22 5,o_ 23 (.iad 24 3 (.t 21) (.t 22)),o_ 24 (.ldn 24 3 (.t 23)),o_ 25 (.call (.f 10) [.t 20,.t 24]),o_ 26 (.not (.t 25))]) (.cond (.t 26) (.seq (.reg [o_ 4 (.mv (.k (.bool false)))]) (.ret)) (.skip)))) (.reg [m_ 15 5,o_ 16 (.bin .add (.t 15) (.k (.int .i64 1))),m_ 5 16]))
def c96:SCode:=
 .seq (.reg [o_ 4 (.mv (.k (.bool false)))]) (.seq (.seq (.reg [m_ 6 0,o_ 7 (.len 22 (.t 6)),m_ 8 1,o_ 9 (.len 22 (.t 8)),o_ 10 (.bin .neq (.t 7) (.t 9))]) (.cond (.t 10) (.seq (.reg [o_ 4 (.mv (.k (.bool false)))]) (.ret)) (.skip))) (.seq (.seq (.reg [o_ 5 (.mv (.k (.int .i64 0)))]) (.block 0 (.loop c96b0))) (.seq (.reg [o_ 4 (.mv (.k (.bool true)))]) (.ret))))
def r96:List RR:=[.t 4]
theorem ok96:okFn Go.Proofs.Try.prog 28 27 c96 r96 2=true:=by kernel_rfl
def c97:SCode:=
 .seq (.reg [o_ 2 (.mv (.k (.bool false)))]) (.seq (.reg [m_ 3 0,o_ 4 (.bin .geq (.t 3) (.k (.int .i64 0))),m_ 5 4,pm_ 6 5 0,p_ 7 5 (.bin .leq (.t 6) (.k (.int .i64 65535))),o_ 8 (.pick (.t 5) (.t 7) (.k (.bool false))),m_ 2 8]) (.ret))
def r97:List RR:=[.t 2]
theorem ok97:okFn Go.Proofs.Try.prog 19 9 c97 r97 1=true:=by kernel_rfl
def c98b0:SCode:=
 .seq (.reg [o_ 32 (.bin .lss (.t 31) (.t 30))]) (.seq (.cond (.t 32) (.skip) (.exit 0)) (.seq (.block 1 (.seq (.reg [m_ 33 31,o_ 34 (.iad 24 3 (.t 29) (.t 31)),o_ 35 (.ldn 24 3 (.t 34)),o_ 9 (.alloc 24 [.v (.int .i64 0),.v (.int .i64 0),.cap 3 40 []]),m_ 8 33,n_ (.stn 24 3 (.t 9) (.t 35))]) (.dreg [0,0,0,0,0,16,0,112,248,0,1020,2047,4095] [m_ 36 7,m_ 37 8,o_ 38 (.ldn 24 3 (.t 9)),m_ 39 1,o_ 40 (.fad 24 0 0 (.t 3)),o_ 41 (.ld1 3 (.t 40)),m_ 42 8,o_ 43 (.call (.f 36) [.t 41,.t 42]),o_ 44 (.bin .add (.t 39) (.t 43)),m_ 45 2,o_ 46 (.call (.f 20) [.t 38,.t 44,.t 45]),o_ 47 (.iad 24 3 (.t 36) (.t 37)),n_ (.stn 24 3 (.t 47) (.t 46))]))) (.reg [o_ 48 (.bin .add (.t 31) (.k (.int .i64 1))),m_ 31 48])))
def c98:SCode:=
 .seq (.reg [o_ 3 (.box 24 (.t 0)),o_ 6 (.alloc 24 [.v (.int .i64 0),.v (.int .i64 0),.cap 3 40 []])]) (.seq (.seq (.reg [o_ 10 (.fad 24 0 0 (.t 3)),o_ 11 (.ld1 3 (.t 10)),o_ 12 (.bin .eql (.t 11) (.k (.int .i64 1)))]) (.cond (.t 12) (.seq (.reg [m_ 13 2,o_ 14 (.fad 24 1 1 (.t 3)),o_ 15 (.ld1 3 (.t 14)),m_ 16 1,o_ 17 (.call (.t 13) [.t 15,.t 16]),n_ (.stn 24 3 (.t 6) (.t 17))]) (.ret)) (.skip))) (.seq (.seq (.reg [o_ 18 (.fad 24 2 2 (.t 3)),o_ 19 (.ld1 22 (.t 18)),o_ 20 (.len 22 (.t 19)),o_ 21 (.bin .eql (.t 20) (.k (.int .i64 0)))]) (.cond (.t 21) (.seq (.reg [o_ 22 (.fad 24 2 2 (.t 3)),n_ (.st1 22 (.t 22) (.nil 3 40))]) (.seq (.reg [o_ 23 (.ldn 24 3 (.t 3)),n_ (.stn 24 3 (.t 6) (.t 23))]) (.ret))) (.skip))) (.seq (.reg [o_ 24 (.fad 24 2 2 (.t 3)),o_ 25 (.ld1 22 (.t 24)),o_ 26 (.len 22 (.t 25)),o_ 27 (.mk 24 3 40 [.v (.int .i64 0),.v (.int .i64 0),.cap 3 40 []] (.t 26)),m_ 7 27])
 (.seq (.seq (.reg [o_ 28 (.fad 24 2 2 (.t 3)),o_ 29 (.ld1 22 (.t 28)),o_ 30 (.len 22 (.t 29)),o_ 31 (.mv (.k (.int .i64 0)))]) (.block 0 (.loop c98b0))) (.seq (.gh) (.seq (.reg [m_ 49 7,o_ 50 (.fad 24 2 2 (.t 3)),n_ (.st1 22 (.t 50) (.t 49))]) (.seq (.reg [o_ 51 (.ldn 24 3 (.t 3)),n_ (.stn 24 3 (.t 6) (.t 51))]) (.ret))))))))
def r98:List RR:=[.cn 6 3]
theorem ok98:okFn Go.Proofs.Try.prog 20 52 c98 r98 3=true:=by kernel_rfl
def c99:SCode:=
 .seq (.reg [o_ 7 (.alloc 24 [.v (.int .i64 0),.v (.int .i64 0),.cap 3 40 []])]) (.seq (.seq (.reg [m_ 8 0,o_ 9 (.ld1 3 (.t 2)),m_ 10 1,o_ 11 (.bin .add (.t 9) (.t 10)),o_ 12 (.bin .lss (.t 8) (.t 11))]) (.cond (.t 12) (.seq (.reg [m_ 13 0,o_ 14 (.call (.f 22) [.t 13]),n_ (.stn 24 3 (.t 7) (.t 14))]) (.ret)) (.skip))) (.seq (.seq (.reg [m_ 15 0,o_ 16 (.ld1 3 (.t 3)),o_ 17 (.bin .add (.t 15) (.t 16)),o_ 18 (.bin .gtr (.t 17) (.k (.int .i64 65535)))]) (.cond (.t 18) (.reg [n_ (.st1 27 (.t 4) (.k (.int .i64 6)))]) (.skip))) (.seq (.reg [m_ 19 0,o_ 20 (.ld1 3 (.t 3)),o_ 21 (.bin .add (.t 19) (.t 20)),o_ 22 (.call (.f 22) [.t 21]),n_ (.stn 24 3 (.t 7) (.t 22))]) (.ret))))
def r99:List RR:=[.cn 7 3]
theorem ok99:okFn Go.Proofs.Try.prog 21 23 c99 r99 5=true:=by kernel_rfl
def c50:SCode:=
 .seq (.reg [o_ 0 (.mv (.k (.bool false)))]) (.seq (.reg [o_ 4 (.call (.f 32) [.k (.int .i64 0)]),o_ 5 (.call (.f 32) [.k (.int .i64 1)]),o_ 6 (.lit 24 3 40 [.t 4,.t 5]),o_ 7 (.call (.f 31) [.k (.int .i64 5),.t 6]),o_ 1 (.alloc 24 [.v (.int .i64 0),.v (.int .i64 0),.cap 3 40 []]),n_ (.stn 24 3 (.t 1) (.t 7))]) (.seq (.reg [o_ 9 (.ldn 24 3 (.t 1)),o_ 10 (.call (.f 6) [.t 9,.k (.int .i64 2),.k (.int .i64 0)]),m_ 8 10,o_ 11 (.ext (.t 8) 0),o_ 12 (.ext (.t 8) 1),o_ 2 (.alloc 24 [.v (.int .i64 0),.v (.int .i64 0),.cap 3 40 []]),n_ (.stn 24 3 (.t 2) (.t 11)),m_ 3 12]) (.seq (.dreg [0,1,3,7,7,23,55,119,255,511,1023,2047,4095,8191,16383,32767] [m_ 13 3,o_ 14 (.bin .eql (.t 13) (.k (.int .i64 0))),m_ 15 14,p_ 16 15 (.ldn 24 3 (.t 2)),p_ 17 15 (.call (.f 32) [.k (.int .i64 2)]),p_ 18 15 (.call (.f 32) [.k (.int .i64 3)]),p_ 19 15 (.lit 24 3 40 [.t 17,.t 18]),
 p_ 20 15 (.call (.f 31) [.k (.int .i64 5),.t 19]),p_ 21 15 (.call (.f 10) [.t 16,.t 20]),o_ 22 (.pick (.t 15) (.t 21) (.k (.bool false))),m_ 23 22,p_ 24 23 (.ldn 24 3 (.t 1)),p_ 25 23 (.call (.f 11) [.t 24,.k (.int .i64 0)]),p_ 26 23 (.bin .eql (.t 25) (.k (.int .i64 2))),o_ 27 (.pick (.t 23) (.t 26) (.k (.bool false))),m_ 0 27]) (.ret))))
def r50:List RR:=[.t 0]
theorem ok50:okFn Go.Proofs.Try.prog 14 28 c50 r50 0=true:=by kernel_rfl
def c52:SCode:=
 .seq (.reg [o_ 2 (.box 24 (.t 0)),o_ 4 (.mv (.k (.int .i64 0)))]) (.seq (.seq (.reg [m_ 5 1,o_ 6 (.call (.f 19) [.t 5]),o_ 7 (.not (.t 6))]) (.cond (.t 7) (.seq (.reg [o_ 4 (.mv (.k (.int .i64 0)))]) (.ret)) (.skip))) (.seq (.reg [o_ 8 (.ldn 24 3 (.t 2)),m_ 9 1,o_ 10 (.call (.f 29) [.t 8,.t 9,.k (.int .i64 0)]),m_ 4 10]) (.ret)))
def r52:List RR:=[.t 4]
theorem ok52:okFn Go.Proofs.Try.prog 11 11 c52 r52 2=true:=by kernel_rfl
def c100b0:SCode:=
 .seq (.reg [o_ 27 (.bin .lss (.t 26) (.t 25))]) (.seq (.cond (.t 27) (.skip) (.exit 0)) (.seq (.block 1 (.seq (.reg [m_ 28 26,o_ 29 (.iad 24 3 (.t 24) (.t 26)),o_ 30 (.ldn 24 3 (.t 29)),o_ 9 (.alloc 24 [.v (.int .i64 0),.v (.int .i64 0),.cap 3 40 []]),m_ 8 28,n_ (.stn 24 3 (.t 9) (.t 30))]) (.dreg [0,0,0,0,0,16,0,112,248,510,1023,2047] [m_ 31 7,o_ 32 (.ldn 24 3 (.t 9)),m_ 33 1,m_ 34 2,o_ 35 (.fad 24 0 0 (.t 3)),o_ 36 (.ld1 3 (.t 35)),m_ 37 8,o_ 38 (.call (.f 36) [.t 36,.t 37]),o_ 39 (.bin .add (.t 34) (.t 38)),o_ 40 (.call (.f 29) [.t 32,.t 33,.t 39]),o_ 41 (.bin .add (.t 31) (.t 40)),m_ 7 41]))) (.reg [o_ 42 (.bin .add (.t 26) (.k (.int .i64 1))),m_ 26 42])))
def c100:SCode:=
 .seq (.reg [o_ 3 (.box 24 (.t 0)),o_ 6 (.mv (.k (.int .i64 0)))]) (.seq (.reg [o_ 7 (.mv (.k (.int .i64 0)))]) (.seq (.seq (.reg [o_ 10 (.fad 24 0 0 (.t 3)),o_ 11 (.ld1 3 (.t 10)),o_ 12 (.bin .eql (.t 11) (.k (.int .i64 1))),m_ 13 12,p_ 14 13 (.fad 24 1 1 (.t 3)),p_ 15 13 (.ld1 3 (.t 14)),pm_ 16 13 1,pm_ 17 13 2,p_ 18 13 (.bin .add (.t 16) (.t 17)),p_ 19 13 (.bin .eql (.t 15) (.t 18)),o_ 20 (.pick (.t 13) (.t 19) (.k (.bool false)))]) (.cond (.t 20) (.reg [m_ 21 7,o_ 22 (.bin .add (.t 21) (.k (.int .i64 1))),m_ 7 22]) (.skip))) (.seq (.seq (.reg [o_ 23 (.fad 24 2 2 (.t 3)),o_ 24 (.ld1 22 (.t 23)),o_ 25 (.len 22 (.t 24)),o_ 26 (.mv (.k (.int .i64 0)))]) (.block 0 (.loop c100b0))) (.seq (.reg [m_ 43 7,m_ 6 43]) (.ret)))))
def r100:List RR:=[.t 6]
theorem ok100:okFn Go.Proofs.Try.prog 29 44 c100 r100 3=true:=by kernel_rfl
def c49:SCode:=
 .seq (.reg [o_ 3 (.box 24 (.t 0)),o_ 4 (.box 3 (.t 1)),o_ 5 (.box 3 (.t 2)),o_ 6 (.alloc 24 [.v (.int .i64 0),.v (.int .i64 0),.cap 3 40 []]),o_ 7 (.mv (.k (.int .i64 0)))]) (.seq (.reg [o_ 10 (.ldn 24 3 (.t 3)),o_ 11 (.call (.f 18) [.t 10]),o_ 8 (.alloc 27 [.v (.int .i64 0)]),n_ (.st1 27 (.t 8) (.t 11))]) (.seq (.block 0 (.seq (.reg [o_ 13 (.ld1 27 (.t 8)),o_ 14 (.bin .neq (.t 13) (.k (.int .i64 0))),m_ 12 14]) (.cond (.t 12) (.seq (.dreg [0,0,1,7] [o_ 15 (.build 24 [.v (.int .i64 0),.v (.int .i64 0),.cap 3 40 []] []),o_ 16 (.ld1 27 (.t 8)),n_ (.stn 24 3 (.t 6) (.t 15)),m_ 7 16]) (.ret)) (.seq (.reg [o_ 18 (.ld1 3 (.t 4)),o_ 19 (.call (.f 19) [.t 18]),o_ 20 (.not (.t 19)),m_ 21 20,q_ 22 21 (.ld1 3 (.t 5)),q_ 23 21 (.call (.f 19) [.t 22]),q_ 24 21 (.not (.t 23)),o_ 25 (.pick (.t 21) (.k (.bool true)) (.t 24)),m_ 17 25]) (.cond (.t 17) (.seq (.reg
 [o_ 26 (.build 24 [.v (.int .i64 0),.v (.int .i64 0),.cap 3 40 []] []),n_ (.stn 24 3 (.t 6) (.t 26)),o_ 7 (.mv (.k (.int .i64 1)))]) (.ret)) (.skip)))))) (.seq (.reg [o_ 27 (.ldn 24 3 (.t 3)),o_ 28 (.mkfn 21 [] [.t 5,.t 4,.t 8]),o_ 29 (.call (.f 20) [.t 27,.k (.int .i64 0),.t 28]),o_ 9 (.alloc 24 [.v (.int .i64 0),.v (.int .i64 0),.cap 3 40 []]),n_ (.stn 24 3 (.t 9) (.t 29))]) (.seq (.seq (.reg [o_ 30 (.ld1 27 (.t 8)),o_ 31 (.bin .neq (.t 30) (.k (.int .i64 0)))]) (.cond (.t 31) (.seq (.dreg [0,0,1,7] [o_ 32 (.build 24 [.v (.int .i64 0),.v (.int .i64 0),.cap 3 40 []] []),o_ 33 (.ld1 27 (.t 8)),n_ (.stn 24 3 (.t 6) (.t 32)),m_ 7 33]) (.ret)) (.skip))) (.seq (.reg [o_ 34 (.ldn 24 3 (.t 9)),n_ (.stn 24 3 (.t 6) (.t 34)),o_ 7 (.mv (.k (.int .i64 0)))]) (.ret))))))
def r49:List RR:=[.cn 6 3,.t 7]
theorem ok49:okFn Go.Proofs.Try.prog 6 35 c49 r49 3=true:=by kernel_rfl
end Go.Abs

namespace Go.Abs
open Go.Proofs
theorem fn96 {ts us:List T} (hf:∀ t,t ∈ ts → ∀ u,Fn Try.prog 10 [tm t,tm u] (bb (T.eqb t u))):Fn Try.prog 28 [tms ts,tms us] (bb (T.eqbL ts us)):=by
 rw [eqbL_all2]
 refine fn_of (base:=96000) ok96 rfl fun σ h0 hr=>?_
 have s0:=h0 0
 have s1:=h0 1
 rw [slots0] at s0
 rw [slots1] at s1
 have hlen:=real_tms (hr (tms ts) (by simp))
 simp only [tms] at s0 s1
 clear h0 hr
 unfold c96
 by_cases hl:ts.length=us.length
 case neg=>
  have hl':¬ ((ts.length:Int)=(us.length:Int)):=by omega
  simp [s0,s1,hl',r96,bb,all2_len hl]
 case pos=>
  simp [s0,s1,hl]
  refine W_loop (fun k σ=>∃ i:Nat,i + k=ts.length ∧ all2 T.eqb (ts.drop i) (us.drop i)=all2 T.eqb ts us ∧ σ.sl 0=.c (.sl 3 40 (ts.map T.cells)) ∧ σ.sl 1=.c (.sl 3 40 (us.map T.cells)) ∧ σ.sl 5=.c (.v (.int .i64 i))) ts.length ?_ ?_
  ·exact ⟨0,by simp [s0,s1]⟩
  ·rintro k σ ⟨i,hk,hp,q0,q1,q5⟩
   unfold c96b0
   by_cases hi:i < ts.length
   ·obtain ⟨t,ht⟩:=at_of hi
    obtain ⟨u,hu⟩:=at_of (show i < us.length by omega)
    obtain ⟨_,ht'⟩:=getE ht
    obtain ⟨hi2,hu'⟩:=getE hu
    have w1:=wrap_succ (i:=i) (by omega)
    rw [all2_at hl ht hu] at hp
    simp [q0,q1,q5,hi,hi2]
    refine W_dregA ?_
    simp [q0,q1,q5,hi,hi2,ht',hu']
    refine CallA.fn (hf t (List.mem_of_getElem? ht) u) (by simp [tm]) (by simp) rfl ?_
    simp [bb]
    refine realC_n ?_
    simp
    constructor
    ·intro hpf
     simp [r96,← hp,hpf]
    ·intro hpt
     rw [hpt,Bool.true_and] at hp
     simp [q5]
     refine ⟨k - 1,by omega,i + 1,by omega,hp,?_⟩
     simp [q0,q1,w1]
   ·simp [q0,q1,q5,hi,r96,bb]
    have:ts.length ≤ i:=by omega
    rw [← hp,List.drop_eq_nil_of_le this,List.drop_eq_nil_of_le (by omega)];rfl
theorem fn45 (t u:T):Fn Try.prog 10 [tm t,tm u] (bb (T.eqb t u)):=by
 induction t using T.ind generalizing u with
 | h k n ts ih=>
 obtain ⟨k',n',us⟩:=u
 have h96:Fn Try.prog 28 [tms ts,tms us] (bb (T.eqbL ts us)):=fn96 fun t ht u=>ih t ht u
 refine fn_of (base:=45000) ok45 rfl fun σ h0 hr=>?_
 have s0:=h0 0
 have s1:=h0 1
 rw [slots0] at s0
 rw [slots1] at s1
 simp only [tm,cells_mk] at s0 s1
 clear h0 hr
 unfold c45
 simp [s0,s1]
 refine GCall.fn (fun _=>h96) (by simp [tms]) (by simp) rfl fun _=>?_
 simp [r45,bb,T.eqb]
end Go.Abs

namespace Go.Abs
def c65:SCode:=
 .seq (.reg [o_ 1 (.box 24 (.t 0)),o_ 2 (.mv (.k (.bool false)))]) (.seq (.reg [o_ 4 (.fad 24 0 0 (.t 1)),o_ 5 (.ld1 3 (.t 4)),o_ 6 (.call (.f 39) [.t 5]),m_ 3 6]) (.seq (.seq (.reg [m_ 7 3,o_ 8 (.bin .lss (.t 7) (.k (.int .i64 0))),m_ 9 8,q_ 10 9 (.fad 24 2 2 (.t 1)),q_ 11 9 (.ld1 22 (.t 10)),q_ 12 9 (.len 22 (.t 11)),qm_ 13 9 3,q_ 14 9 (.bin .neq (.t 12) (.t 13)),o_ 15 (.pick (.t 9) (.k (.bool true)) (.t 14)),m_ 16 15,q_ 17 16 (.fad 24 1 1 (.t 1)),q_ 18 16 (.ld1 3 (.t 17)),q_ 19 16 (.bin .lss (.t 18) (.k (.int .i64 0))),o_ 20 (.pick (.t 16) (.k (.bool true)) (.t 19)),m_ 21 20,q_ 22 21 (.fad 24 1 1 (.t 1)),q_ 23 21 (.ld1 3 (.t 22)),q_ 24 21 (.bin .gtr (.t 23) (.k (.int .i64 65535))),o_ 25 (.pick (.t 21) (.k (.bool true)) (.t 24)),m_ 26 25,qm_ 27 26 3,q_ 28 26 (.bin .gtr (.t 27) (.k (.int .i64 0))),qm_ 29 26 28,p_ 30 29 (.fad 24 1 1 (.t 1)),p_ 31 29 (.ld1 3 (.t 30)),
 p_ 32 29 (.bin .neq (.t 31) (.k (.int .i64 0))),q_ 33 26 (.pick (.t 29) (.t 32) (.k (.bool false))),o_ 34 (.pick (.t 26) (.k (.bool true)) (.t 33))]) (.cond (.t 34) (.seq (.reg [o_ 2 (.mv (.k (.bool false)))]) (.ret)) (.skip))) (.seq (.reg [o_ 35 (.fad 24 2 2 (.t 1)),o_ 36 (.ld1 22 (.t 35)),o_ 37 (.call (.f 40) [.t 36,.f 41]),o_ 38 (.not (.t 37)),m_ 2 38]) (.ret))))
def r65:List RR:=[.t 2]
theorem ok65:okFn Go.Proofs.Try.prog 35 39 c65 r65 1=true:=by kernel_rfl
def c113:SCode:=
 .seq (.reg [o_ 1 (.box 24 (.t 0)),o_ 2 (.mv (.k (.bool false)))]) (.seq (.reg [o_ 3 (.ldn 24 3 (.t 1)),o_ 4 (.call (.f 35) [.t 3]),o_ 5 (.not (.t 4)),m_ 2 5]) (.ret))
def r113:List RR:=[.t 2]
theorem ok113:okFn Go.Proofs.Try.prog 41 6 c113 r113 1=true:=by kernel_rfl
def c22:SCode:=
 .seq (.reg [o_ 1 (.box 24 (.t 0)),o_ 2 (.mv (.k (.int .i64 0)))]) (.seq (.block 0 (.seq (.reg [o_ 4 (.ldn 24 3 (.t 1)),o_ 5 (.call (.f 33) [.t 4]),o_ 6 (.bin .gtr (.t 5) (.k (.int .i64 6000))),m_ 3 6]) (.cond (.t 3) (.seq (.reg [o_ 2 (.mv (.k (.int .i64 4)))]) (.ret)) (.seq (.reg [o_ 8 (.ldn 24 3 (.t 1)),o_ 9 (.call (.f 34) [.t 8]),o_ 10 (.bin .gtr (.t 9) (.k (.int .i64 200))),m_ 7 10]) (.cond (.t 7) (.seq (.reg [o_ 2 (.mv (.k (.int .i64 5)))]) (.ret)) (.seq (.reg [o_ 12 (.ldn 24 3 (.t 1)),o_ 13 (.call (.f 35) [.t 12]),o_ 14 (.not (.t 13)),m_ 11 14]) (.cond (.t 11) (.seq (.reg [o_ 2 (.mv (.k (.int .i64 1)))]) (.ret)) (.skip)))))))) (.seq (.reg [o_ 2 (.mv (.k (.int .i64 0)))]) (.ret)))
def r22:List RR:=[.t 2]
theorem ok22:okFn Go.Proofs.Try.prog 18 15 c22 r22 1=true:=by kernel_rfl
def c25:SCode:=
 .seq (.reg [o_ 4 (.alloc 24 [.v (.int .i64 0),.v (.int .i64 0),.cap 3 40 []])]) (.seq (.reg [o_ 5 (.mv (.nil 3 40))]) (.seq (.reg [m_ 6 0,m_ 7 5,m_ 8 1,o_ 9 (.app 24 3 40 (.t 7) (.t 8)),o_ 10 (.build 24 [.v (.int .i64 0),.v (.int .i64 0),.cap 3 40 []] [(0,0,1,.t 6),(2,2,1,.t 9)]),n_ (.stn 24 3 (.t 4) (.t 10))]) (.ret)))
def r25:List RR:=[.cn 4 3]
theorem ok25:okFn Go.Proofs.Try.prog 31 11 c25 r25 2=true:=by kernel_rfl
def c66:SCode:=
 .seq (.reg [o_ 2 (.alloc 24 [.v (.int .i64 0),.v (.int .i64 0),.cap 3 40 []])]) (.seq (.reg [m_ 3 0,o_ 4 (.build 24 [.v (.int .i64 0),.v (.int .i64 0),.cap 3 40 []] [(0,0,1,.k (.int .i64 1)),(1,1,1,.t 3)]),n_ (.stn 24 3 (.t 2) (.t 4))]) (.ret))
def r66:List RR:=[.cn 2 3]
theorem ok66:okFn Go.Proofs.Try.prog 32 5 c66 r66 1=true:=by kernel_rfl
def c31:SCode:=
 .seq (.reg [o_ 4 (.mv (.k (.int .i64 0)))]) (.seq (.seq (.reg [m_ 5 1,o_ 6 (.bin .eql (.t 5) (.k (.int .i64 1))),m_ 7 6,p_ 8 7 (.lit 3 1 8 [.k (.int .i64 4),.k (.int .i64 5),.k (.int .i64 7)]),pm_ 9 7 0,p_ 10 7 (.call (.f 42) [.t 8,.t 9]),o_ 11 (.pick (.t 7) (.t 10) (.k (.bool false)))]) (.cond (.t 11) (.seq (.reg [o_ 4 (.mv (.k (.int .i64 1)))]) (.ret)) (.skip))) (.seq (.reg [o_ 4 (.mv (.k (.int .i64 0)))]) (.ret)))
def r31:List RR:=[.t 4]
theorem ok31:okFn Go.Proofs.Try.prog 36 12 c31 r31 2=true:=by kernel_rfl
def c69:SCode:=
 .seq (.reg [o_ 4 (.mv (.k (.bool false)))]) (.seq (.reg [m_ 5 0,m_ 6 1,o_ 7 (.call (.f 46) [.t 5,.t 6]),o_ 8 (.bin .geq (.t 7) (.k (.int .i64 0))),m_ 4 8]) (.ret))
def r69:List RR:=[.t 4]
theorem ok69:okFn Go.Proofs.Try.prog 42 9 c69 r69 2=true:=by kernel_rfl
def c115b0:SCode:=
 .seq (.reg [o_ 9 (.bin .lss (.t 8) (.t 7))]) (.seq (.cond (.t 9) (.skip) (.exit 0)) (.seq (.block 1 (.seq (.reg [m_ 10 8,m_ 5 10]) (.seq (.reg [m_ 11 1,m_ 12 0,m_ 13 5,o_ 14 (.iad 3 1 (.t 12) (.t 13)),o_ 15 (.ld1 3 (.t 14)),o_ 16 (.bin .eql (.t 11) (.t 15))]) (.cond (.t 16) (.seq (.reg [m_ 17 5,m_ 4 17]) (.ret)) (.skip))))) (.reg [o_ 18 (.bin .add (.t 8) (.k (.int .i64 1))),m_ 8 18])))
def c115:SCode:=
 .seq (.reg [o_ 4 (.mv (.k (.int .i64 0)))]) (.seq (.seq (.reg [m_ 6 0,o_ 7 (.len 55 (.t 6)),o_ 8 (.mv (.k (.int .i64 0)))]) (.block 0 (.loop c115b0))) (.seq (.reg [o_ 4 (.mv (.k (.int .i64 (-1))))]) (.ret)))
def r115:List RR:=[.t 4]
theorem ok115:okFn Go.Proofs.Try.prog 46 19 c115 r115 2=true:=by kernel_rfl
end Go.Abs

namespace Go.Abs
def c111:SCode:=
 .seq (.reg [o_ 2 (.mv (.k (.bool false)))]) (.seq (.reg [m_ 3 0,o_ 4 (.bin .geq (.t 3) (.k (.int .i64 1))),m_ 5 4,pm_ 6 5 0,p_ 7 5 (.bin .leq (.t 6) (.k (.int .i64 13))),o_ 8 (.pick (.t 5) (.t 7) (.k (.bool false))),m_ 2 8]) (.ret))
def r111:List RR:=[.t 2]
theorem ok111:okFn Go.Proofs.Try.prog 44 9 c111 r111 1=true:=by kernel_rfl
def c62:SCode:=
 .seq (.reg [o_ 2 (.mv (.k (.int .i64 0)))]) (.seq (.seq (.reg [m_ 3 0]) (.block 0 (.seq (.seq (.reg [o_ 5 (.bin .eql (.t 3) (.k (.int .i64 1))),m_ 4 5]) (.cond (.t 4) (.skip) (.seq (.reg [o_ 6 (.bin .eql (.t 3) (.k (.int .i64 2))),m_ 4 6]) (.cond (.t 4) (.skip) (.reg [o_ 7 (.bin .eql (.t 3) (.k (.int .i64 3))),m_ 4 7]))))) (.cond (.t 4) (.seq (.reg [o_ 2 (.mv (.k (.int .i64 0)))]) (.ret)) (.seq (.seq (.reg [o_ 9 (.bin .eql (.t 3) (.k (.int .i64 9))),m_ 8 9]) (.cond (.t 8) (.skip) (.reg [o_ 10 (.bin .eql (.t 3) (.k (.int .i64 10))),m_ 8 10]))) (.cond (.t 8) (.seq (.reg [o_ 2 (.mv (.k (.int .i64 1)))]) (.ret)) (.seq (.seq (.reg [o_ 12 (.bin .eql (.t 3) (.k (.int .i64 8))),m_ 11 12]) (.cond (.t 11) (.skip) (.seq (.reg [o_ 13 (.bin .eql (.t 3) (.k (.int .i64 11))),m_ 11 13]) (.cond (.t 11) (.skip) (.reg [o_ 14 (.bin .eql (.t 3) (.k (.int .i64 13))),m_ 11 14]))))) (.cond (.t 11) (.seq (.reg
 [o_ 2 (.mv (.k (.int .i64 3)))]) (.ret)) (.skip))))))))) (.seq (.seq (.reg [m_ 15 0,o_ 16 (.call (.f 44) [.t 15])]) (.cond (.t 16) (.seq (.reg [o_ 2 (.mv (.k (.int .i64 2)))]) (.ret)) (.skip))) (.seq (.reg [o_ 2 (.mv (.k (.int .i64 (-1))))]) (.ret))))
def r62:List RR:=[.t 2]
theorem ok62:okFn Go.Proofs.Try.prog 39 17 c62 r62 1=true:=by kernel_rfl
def c112:SCode:=
 .seq (.reg [o_ 4 (.mv (.k (.bool false)))]) (.seq (.reg [m_ 5 0,m_ 6 1,o_ 7 (.call (.f 45) [.t 5,.t 6]),o_ 8 (.bin .geq (.t 7) (.k (.int .i64 0))),m_ 4 8]) (.ret))
def r112:List RR:=[.t 4]
theorem ok112:okFn Go.Proofs.Try.prog 40 9 c112 r112 2=true:=by kernel_rfl
def c124b0:SCode:=
 .seq (.reg [o_ 9 (.bin .lss (.t 8) (.t 7))]) (.seq (.cond (.t 9) (.skip) (.exit 0)) (.seq (.block 1 (.seq (.reg [m_ 10 8,m_ 5 10]) (.seq (.reg [m_ 11 1,m_ 12 0,m_ 13 5,o_ 14 (.iad 24 3 (.t 12) (.t 13)),o_ 15 (.ldn 24 3 (.t 14)),o_ 16 (.call (.t 11) [.t 15])]) (.cond (.t 16) (.seq (.reg [m_ 17 5,m_ 4 17]) (.ret)) (.skip))))) (.reg [o_ 18 (.bin .add (.t 8) (.k (.int .i64 1))),m_ 8 18])))
def c124:SCode:=
 .seq (.reg [o_ 4 (.mv (.k (.int .i64 0)))]) (.seq (.seq (.reg [m_ 6 0,o_ 7 (.len 22 (.t 6)),o_ 8 (.mv (.k (.int .i64 0)))]) (.block 0 (.loop c124b0))) (.seq (.reg [o_ 4 (.mv (.k (.int .i64 (-1))))]) (.ret)))
def r124:List RR:=[.t 4]
theorem ok124:okFn Go.Proofs.Try.prog 45 19 c124 r124 2=true:=by kernel_rfl
end Go.Abs

namespace Go.Abs
open Go.Proofs
theorem fn20 (t:T):Fn Try.prog 33 [tm t] (ib t.size):=by
 induction t using T.ind with
 | h k n ts ih=>
 refine fn_of (base:=20000) ok20 rfl fun σ h0 hr=>?_
 have s0:=h0 0
 rw [slots0] at s0
 have hlen:=real_kids (hr (tm (.mk k n ts)) (by simp))
 rw [kids_mk] at hlen
 simp only [tm,cells_mk] at s0
 clear h0 hr
 unfold c20
 simp [s0]
 refine W_loop (fun m σ=>∃ (i:Nat) (a:Int),i + m=ts.length ∧ T.sizeL a (ts.drop i)=T.sizeL 1 ts ∧ σ.sl 3=ib a ∧ σ.sl 7=tms ts ∧ σ.sl 8=ib ts.length ∧ σ.sl 9=ib i) ts.length ?_ ?_
 ·exact ⟨0,1,by simp [ib,tms]⟩
 ·rintro m σ ⟨i,a,hm,hp,q3,q7,q8,q9⟩
  unfold c20b0
  simp only [tms,ib] at q3 q7 q8 q9
  by_cases hi:i < ts.length
  ·obtain ⟨t,ht⟩:=at_of hi
   obtain ⟨_,ht'⟩:=getE ht
   have w1:=wrap_succ (i:=i) (by omega)
   simp [q3,q7,q8,q9,hi,ht']
   refine ECall.fn (ih t (List.mem_of_getElem? ht)) (by simp [tm]) (by simp) rfl fun _=>?_
   simp [ib,q3,q9]
   rw [drop_at ht,T.sizeL] at hp
   refine ⟨m - 1,by omega,i + 1,by omega,_,hp,?_⟩
   simp [q7,q8,tms,w1]
  ·simp [q3,q7,q8,q9,hi,r20,ib,T.size]
   rw [← hp,List.drop_eq_nil_of_le (by omega),T.sizeL]
theorem fn21 (t:T):Fn Try.prog 34 [tm t] (ib t.depth):=by
 induction t using T.ind with
 | h k n ts ih=>
 refine fn_of (base:=21000) ok21 rfl fun σ h0 hr=>?_
 have s0:=h0 0
 rw [slots0] at s0
 have hlen:=real_kids (hr (tm (.mk k n ts)) (by simp))
 rw [kids_mk] at hlen
 simp only [tm,cells_mk] at s0
 clear h0 hr
 unfold c21
 simp [s0]
 refine W_loop (fun m σ=>∃ (i:Nat) (a:Int),i + m=ts.length ∧ T.depthL a (ts.drop i)=T.depthL 0 ts ∧ σ.sl 3=ib a ∧ σ.sl 7=tms ts ∧ σ.sl 8=ib ts.length ∧ σ.sl 9=ib i) ts.length ?_ ?_
 ·exact ⟨0,0,by simp [ib,tms]⟩
 ·rintro m σ ⟨i,a,hm,hp,q3,q7,q8,q9⟩
  unfold c21b0
  simp only [tms,ib] at q3 q7 q8 q9
  by_cases hi:i < ts.length
  ·obtain ⟨t,ht⟩:=at_of hi
   obtain ⟨_,ht'⟩:=getE ht
   have w1:=wrap_succ (i:=i) (by omega)
   simp [q3,q7,q8,q9,hi,ht']
   refine ECall.fn (ih t (List.mem_of_getElem? ht)) (by simp [tm]) (by simp) rfl fun _=>?_
   simp [ib,q3,q9]
   rw [drop_at ht,T.depthL] at hp
   refine ⟨m - 1,by omega,i + 1,by omega,_,hp,?_⟩
   simp [q7,q8,tms,w1]
  ·simp [q3,q7,q8,q9,hi,r21,ib,T.depth]
   rw [← hp,List.drop_eq_nil_of_le (by omega),T.depthL]
theorem fn28 (t:T):Fn Try.prog 16 [tm t] (ib t.size):=by
 induction t using T.ind with
 | h k n ts ih=>
 refine fn_of (base:=28000) ok28 rfl fun σ h0 hr=>?_
 have s0:=h0 0
 rw [slots0] at s0
 have hlen:=real_kids (hr (tm (.mk k n ts)) (by simp))
 rw [kids_mk] at hlen
 simp only [tm,cells_mk] at s0
 clear h0 hr
 unfold c28
 simp [s0]
 refine W_loop (fun m σ=>∃ (i:Nat) (a:Int),i + m=ts.length ∧ T.sizeL a (ts.drop i)=T.sizeL 1 ts ∧ σ.sl 3=ib a ∧ σ.sl 1=.c (.ref 28001 (σ.tg 28001) 0) ∧ σ.ob 28001=some (.box 24 (T.mk k n ts).cells) ∧ σ.sl 4=ib i) ts.length ?_ ?_
 ·exact ⟨0,1,by simp [ib,cells_mk]⟩
 ·rintro m σ ⟨i,a,hm,hp,q3,q1,qo,q4⟩
  unfold c28b0
  simp only [cells_mk,ib] at q3 q1 qo q4
  by_cases hi:i < ts.length
  ·obtain ⟨t,ht⟩:=at_of hi
   obtain ⟨_,ht'⟩:=getE ht
   have w1:=wrap_succ (i:=i) (by omega)
   simp [q3,q1,qo,q4,hi,ht']
   refine ECall.fn (ih t (List.mem_of_getElem? ht)) (by simp [tm]) (by simp) rfl fun _=>?_
   simp [ib,q3,q4]
   rw [drop_at ht,T.sizeL] at hp
   refine ⟨m - 1,by omega,i + 1,by omega,_,hp,?_⟩
   simp [q1,qo,w1,cells_mk]
  ·simp [q3,q1,qo,q4,hi,r28,ib,T.size]
   rw [← hp,List.drop_eq_nil_of_le (by omega),T.sizeL]
theorem fn29 (t:T):Fn Try.prog 15 [tm t] (ib t.depth):=by
 induction t using T.ind with
 | h k n ts ih=>
 refine fn_of (base:=29000) ok29 rfl fun σ h0 hr=>?_
 have s0:=h0 0
 rw [slots0] at s0
 have hlen:=real_kids (hr (tm (.mk k n ts)) (by simp))
 rw [kids_mk] at hlen
 simp only [tm,cells_mk] at s0
 clear h0 hr
 unfold c29
 simp [s0]
 refine W_loop (fun m σ=>∃ (i:Nat) (a:Int),i + m=ts.length ∧ T.depthL a (ts.drop i)=T.depthL 0 ts ∧ σ.sl 3=ib a ∧ σ.sl 1=.c (.ref 29001 (σ.tg 29001) 0) ∧ σ.ob 29001=some (.box 24 (T.mk k n ts).cells) ∧ σ.sl 4=ib i) ts.length ?_ ?_
 ·exact ⟨0,0,by simp [ib,cells_mk]⟩
 ·rintro m σ ⟨i,a,hm,hp,q3,q1,qo,q4⟩
  unfold c29b0
  simp only [cells_mk,ib] at q3 q1 qo q4
  by_cases hi:i < ts.length
  ·obtain ⟨t,ht⟩:=at_of hi
   obtain ⟨_,ht'⟩:=getE ht
   have w1:=wrap_succ (i:=i) (by omega)
   simp [q3,q1,qo,q4,hi,ht']
   refine ECall.fn (ih t (List.mem_of_getElem? ht)) (by simp [tm]) (by simp) rfl fun _=>?_
   simp [ib,q3,q4]
   rw [drop_at ht,T.depthL] at hp
   refine ⟨m - 1,by omega,i + 1,by omega,_,hp,?_⟩
   simp [q1,qo,w1,cells_mk]
  ·simp [q3,q1,qo,q4,hi,r29,ib,T.depth]
   rw [← hp,List.drop_eq_nil_of_le (by omega),T.depthL]
end Go.Abs

namespace Go.Abs
open Go.Proofs
theorem fn111 (k:Int):Fn Try.prog 44 [ib k] (bb (decide (1 ≤ k) && decide (k ≤ 13))):=by
 refine fn_of (base:=111000) ok111 rfl fun σ h0 hr=>?_
 have s0:=h0 0
 rw [slots0] at s0
 simp only [ib] at s0
 clear h0 hr
 unfold c111
 simp [s0,r111,bb]
set_option maxHeartbeats 2000000 in
theorem fn62 (k:Int):Fn Try.prog 39 [ib k] (ib (kidsOf k)):=by
 refine fn_of (base:=62000) ok62 rfl fun σ h0 hr=>?_
 have s0:=h0 0
 rw [slots0] at s0
 simp only [ib] at s0
 clear h0 hr
 unfold c62
 by_cases h1:k=1
 ·subst h1;simp [s0,r62,ib,kidsOf]
 by_cases h2:k=2
 ·subst h2;simp [s0,r62,ib,kidsOf]
 by_cases h3:k=3
 ·subst h3;simp [s0,r62,ib,kidsOf]
 by_cases h9:k=9
 ·subst h9;simp [s0,r62,ib,kidsOf]
 by_cases h10:k=10
 ·subst h10;simp [s0,r62,ib,kidsOf]
 by_cases h8:k=8
 ·subst h8;simp [s0,r62,ib,kidsOf]
 by_cases h11:k=11
 ·subst h11;simp [s0,r62,ib,kidsOf]
 by_cases h13:k=13
 ·subst h13;simp [s0,r62,ib,kidsOf]
 simp [s0,h1,h2,h3,h9,h10,h8,h11,h13]
 refine ECall.fn (fn111 k) (by simp [ib]) (by simp) rfl fun _=>?_
 simp [bb,r62,ib,kidsOf,h1,h2,h3,h9,h10,h8,h11,h13]
def idx {α:Type} (p:α → Bool):Int → List α → Int
 | _,[]=>-1
 | i,t :: ts=>if p t then i else idx p (i + 1) ts
theorem idx_any {α:Type} {p:α → Bool}:∀ {ts:List α} {i:Int},0 ≤ i → decide (0 ≤ idx p i ts)=ts.any p
 | [],i,h=>by simp [idx]
 | t :: ts,i,h=>by
  simp only [idx,List.any_cons]
  by_cases hp:p t
  ·simp [hp,h]
  ·simp [hp]
   have:=idx_any (p:=p) (ts:=ts) (i:=i + 1) (by omega)
   simpa using this
theorem fn124 {f:Nat} {p:T → Bool} {ts:List T} (hf:∀ t,t ∈ ts → Fn Try.prog f [tm t] (bb (p t))):Fn Try.prog 45 [tms ts,.c (.clo f [] [])] (ib (idx p 0 ts)):=by
 refine fn_of (base:=124000) ok124 rfl fun σ h0 hr=>?_
 have s0:=h0 0
 have s1:=h0 1
 rw [slots0] at s0
 rw [slots1] at s1
 have hlen:=real_tms (hr (tms ts) (by simp))
 simp only [tms] at s0
 clear h0 hr
 unfold c124
 simp [s0,s1]
 refine W_loop (fun m σ=>∃ (i:Nat),i + m=ts.length ∧ idx p i (ts.drop i)=idx p 0 ts ∧ σ.sl 0=tms ts ∧ σ.sl 1=.c (.clo f [] []) ∧ σ.sl 7=ib ts.length ∧ σ.sl 8=ib i) ts.length ?_ ?_
 ·exact ⟨0,by simp [ib,tms,s0,s1]⟩
 ·rintro m σ ⟨i,hm,hp,q0,q1,q7,q8⟩
  unfold c124b0
  simp only [tms,ib] at q0 q1 q7 q8
  by_cases hi:i < ts.length
  ·obtain ⟨t,ht⟩:=at_of hi
   obtain ⟨_,ht'⟩:=getE ht
   have w1:=wrap_succ (i:=i) (by omega)
   rw [drop_at ht,idx] at hp
   simp [q0,q1,q7,q8,hi,ht']
   refine ECall.fn (hf t (List.mem_of_getElem? ht)) (by simp [tm]) (by simp) rfl fun _=>?_
   simp [bb,q8]
   constructor
   ·intro hd
    rw [if_pos hd] at hp
    simp [r124,ib,← hp]
   ·intro hd
    rw [if_neg (by simp [hd])] at hp
    refine ⟨m - 1,by omega,i + 1,by omega,by simpa using hp,?_⟩
    simp [q0,q1,q7,tms,ib,w1]
  ·simp [q0,q1,q7,q8,hi,r124,ib]
   rw [← hp,List.drop_eq_nil_of_le (by omega),idx]
theorem fn112 {f:Nat} {p:T → Bool} {ts:List T} (hf:∀ t,t ∈ ts → Fn Try.prog f [tm t] (bb (p t))):Fn Try.prog 40 [tms ts,.c (.clo f [] [])] (bb (ts.any p)):=by
 refine fn_of (base:=112000) ok112 rfl fun σ h0 hr=>?_
 have s0:=h0 0
 have s1:=h0 1
 rw [slots0] at s0
 rw [slots1] at s1
 simp only [tms] at s0
 clear h0 hr
 unfold c112
 simp [s0,s1]
 refine ECall.fn (fn124 hf) (by simp [tms]) (by simp) rfl fun _=>?_
 simp [r112,bb,ib,← idx_any (p:=p) (ts:=ts) (i:=0)]
theorem fn113 {t:T} (h65:Fn Try.prog 35 [tm t] (bb t.formed)):Fn Try.prog 41 [tm t] (bb (!t.formed)):=by
 refine fn_of (base:=113000) ok113 rfl fun σ h0 hr=>?_
 have s0:=h0 0
 rw [slots0] at s0
 simp only [tm] at s0
 clear h0 hr
 unfold c113
 simp [s0]
 refine ECall.fn h65 (by simp [tm]) (by simp) rfl fun _=>?_
 simp [r113,bb]
theorem fn65 (t:T):Fn Try.prog 35 [tm t] (bb t.formed):=by
 induction t using T.ind with
 | h k n ts ih=>
 have h112:=fn112 (ts:=ts) (p:=fun t=>!t.formed) fun t ht=>fn113 (ih t ht)
 refine fn_of (base:=65000) ok65 rfl fun σ h0 hr=>?_
 have s0:=h0 0
 rw [slots0] at s0
 simp only [tm,cells_mk] at s0
 clear h0 hr
 unfold c65
 simp [s0]
 refine ECall.fn (fn62 k) (by simp [ib]) (by simp) rfl fun _=>?_
 simp [ib,r65,bb]
 refine ⟨fun hb=>?_,fun h1 h2 h3 h4 h5=>?_⟩
 ·have hb':badHead k n ts.length=true:=by simp [badHead];exact hb
  simp [T.formed,hb']
 ·have hb':badHead k n ts.length=false:=by simp [badHead];exact ⟨⟨⟨⟨h1,h2⟩,h3⟩,h4⟩,h5⟩
  refine ECall.fn h112 (by simp [tms]) (by simp) rfl fun _=>?_
  simp [bb,T.formed,hb',formedL_all]
  exact (List.not_all_eq_any_not ..).symm
theorem fn22 (t:T):Fn Try.prog 18 [tm t] (ib t.check):=by
 refine fn_of (base:=22000) ok22 rfl fun σ h0 hr=>?_
 have s0:=h0 0
 rw [slots0] at s0
 simp only [tm] at s0
 clear h0 hr
 unfold c22
 simp [s0]
 refine ECall.fn (fn20 t) (by simp [tm]) (by simp) rfl fun _=>?_
 simp [ib]
 refine ⟨fun h1=>by simp [r22,h1,T.check],fun h1=>?_⟩
 simp [show ¬ 6000 < t.size by omega]
 refine ECall.fn (fn21 t) (by simp [tm]) (by simp) rfl fun _=>?_
 simp [ib]
 refine ⟨fun h2=>by simp [r22,h2,T.check,show ¬ 6000 < t.size by omega],fun h2=>?_⟩
 simp [show ¬ 200 < t.depth by omega]
 refine ECall.fn (fn65 t) (by simp [tm]) (by simp) rfl fun _=>?_
 simp [bb]
 refine ⟨fun h3=>by simp [r22,h3,T.check,show ¬ 6000 < t.size by omega,show ¬ 200 < t.depth by omega],fun h3=>by simp [r22,h3,T.check,show ¬ 6000 < t.size by omega,show ¬ 200 < t.depth by omega]⟩
end Go.Abs

namespace Go.Abs
open Go.Proofs
theorem fn66 (n:Int):Fn Try.prog 32 [ib n] (tm (.mk 1 n [])):=by
 refine fn_of (base:=66000) ok66 rfl fun σ h0 hr=>?_
 have s0:=h0 0
 rw [slots0] at s0
 simp only [ib] at s0
 clear h0 hr
 unfold c66
 simp [s0,r66,tm,cells_mk]
theorem fn25 (k:Int) (ts:List T):Fn Try.prog 31 [ib k,tms ts] (tm (.mk k 0 ts)):=by
 refine fn_of (base:=25000) ok25 rfl fun σ h0 hr=>?_
 have s0:=h0 0
 have s1:=h0 1
 rw [slots0] at s0
 rw [slots1] at s1
 have hlen:=real_tms (hr (tms ts) (by simp))
 simp only [ib,tms] at s0 s1
 clear h0 hr
 unfold c25
 simp [s0,s1,r25,tm,cells_mk,room,hlen]
def idxI (x:Int):Int → List Int → Int
 | _,[]=>-1
 | i,n :: ns=>if x=n then i else idxI x (i + 1) ns
theorem idxI_any {x:Int}:∀ {ns:List Int} {i:Int},0 ≤ i → decide (0 ≤ idxI x i ns)=decide (x ∈ ns)
 | [],i,h=>by simp [idxI]
 | n :: ns,i,h=>by
  simp only [idxI]
  by_cases hp:x=n
  ·simp [hp,h]
  ·simp [hp]
   have:=idxI_any (x:=x) (ns:=ns) (i:=i + 1) (by omega)
   simpa using this
theorem fn115 (ns:List Int) (x:Int):Fn Try.prog 46 [is ns,ib x] (ib (idxI x 0 ns)):=by
 refine fn_of (base:=115000) ok115 rfl fun σ h0 hr=>?_
 have s0:=h0 0
 have s1:=h0 1
 rw [slots0] at s0
 rw [slots1] at s1
 have hlen:=real_is (hr (is ns) (by simp))
 simp only [ib,is] at s0 s1
 clear h0 hr
 unfold c115
 simp [s0,s1]
 refine W_loop (fun m σ=>∃ (i:Nat),i + m=ns.length ∧ idxI x i (ns.drop i)=idxI x 0 ns ∧ σ.sl 0=is ns ∧ σ.sl 1=ib x ∧ σ.sl 7=ib ns.length ∧ σ.sl 8=ib i) ns.length ?_ ?_
 ·exact ⟨0,by simp [ib,is,s0,s1]⟩
 ·rintro m σ ⟨i,hm,hp,q0,q1,q7,q8⟩
  unfold c115b0
  simp only [is,ib] at q0 q1 q7 q8
  by_cases hi:i < ns.length
  ·obtain ⟨t,ht⟩:=at_of hi
   obtain ⟨_,ht'⟩:=getE ht
   have w1:=wrap_succ (i:=i) (by omega)
   rw [drop_at ht,idxI] at hp
   by_cases hx:x=t
   ·rw [if_pos hx] at hp
    subst hx
    simp [q0,q1,q7,q8,hi,ht',r115,ib,← hp]
   ·rw [if_neg hx] at hp
    simp [q0,q1,q7,q8,hi,ht',hx]
    refine ⟨m - 1,by omega,i + 1,by omega,by simpa using hp,?_⟩
    simp [is,ib,w1]
  ·simp [q0,q1,q7,q8,hi,r115,ib]
   rw [← hp,List.drop_eq_nil_of_le (by omega),idxI]
theorem fn69 (ns:List Int) (x:Int):Fn Try.prog 42 [is ns,ib x] (bb (decide (x ∈ ns))):=by
 refine fn_of (base:=69000) ok69 rfl fun σ h0 hr=>?_
 have s0:=h0 0
 have s1:=h0 1
 rw [slots0] at s0
 rw [slots1] at s1
 simp only [ib,is] at s0 s1
 clear h0 hr
 unfold c69
 simp [s0,s1]
 refine ECall.fn (fn115 ns x) (by simp [is,ib]) (by simp) rfl fun _=>?_
 simp [r69,bb,ib,← idxI_any (x:=x) (ns:=ns) (i:=0)]
theorem fn31 (k i:Int):Fn Try.prog 36 [ib k,ib i] (ib (bindsOf k i)):=by
 refine fn_of (base:=31000) ok31 rfl fun σ h0 hr=>?_
 have s0:=h0 0
 have s1:=h0 1
 rw [slots0] at s0
 rw [slots1] at s1
 simp only [ib] at s0 s1
 clear h0 hr
 unfold c31
 simp [s0,s1,room]
 refine GCall.fn (fun _=>fn69 [4,5,7] k) (by simp [is,ib]) (by simp) rfl fun _=>?_
 simp [bb,r31,ib,bindsOf]
 intro h1 h2
 exact ⟨h1,by omega⟩
end Go.Abs

namespace Go.Abs
open Go.Proofs
mutual
def T.cnt:T → Int → Int → Int
 | .mk k n ts,b,d=>T.cntL k b d 0 (if k=1 ∧ n=IntKind.wrap .i64 (b + d) then 1 else 0) ts
def T.cntL (k b d:Int):Int → Int → List T → Int
 | _,a,[]=>a
 | i,a,t :: ts=>T.cntL k b d (i + 1) (IntKind.wrap .i64 (a + T.cnt t b (IntKind.wrap .i64 (d + bindsOf k i)))) ts
end
theorem fn97 (x:Int):Fn Try.prog 19 [ib x] (bb (decide (0 ≤ x) && decide (x ≤ 65535))):=by
 refine fn_of (base:=97000) ok97 rfl fun σ h0 hr=>?_
 have s0:=h0 0
 rw [slots0] at s0
 simp only [ib] at s0
 clear h0 hr
 unfold c97
 simp [s0,r97,bb]
theorem fn100 (t:T) (b d:Int):Fn Try.prog 29 [tm t,ib b,ib d] (ib (t.cnt b d)):=by
 induction t using T.ind generalizing d with
 | h k n ts ih=>
 refine fn_of (base:=100000) ok100 rfl fun σ h0 hr=>?_
 have s0:=h0 0
 have s1:=h0 1
 have s2:=h0 2
 rw [slots0] at s0
 rw [slots1] at s1
 rw [slots2] at s2
 have hlen:=real_kids (hr (tm (.mk k n ts)) (by simp))
 rw [kids_mk] at hlen
 simp only [tm,cells_mk,ib] at s0 s1 s2
 clear h0 hr
 have loop:∀ (a0:Int) (σ:St),σ.sl 7=.c (.v (.int .i64 a0)) → σ.sl 1=.c (.v (.int .i64 b)) → σ.sl 2=.c (.v (.int .i64 d)) → σ.sl 3=.c (.ref 100003 (σ.tg 100003) 0) → σ.ob 100003=some (.box 24 (T.mk k n ts).cells) →
   σ.sl 24=.c (.sl 3 40 (ts.map T.cells)) → σ.sl 25=.c (.v (.int .i64 ts.length)) → σ.sl 26=.c (.v (.int .i64 0)) →
   T.cntL k b d 0 a0 ts=(T.mk k n ts).cnt b d → W Try.prog 100000 (.loop c100b0) σ (onBlock 0 (seqC Try.prog 100000 (.seq (.reg
   [⟨some 43,none,.mv (.t 7)⟩,
    ⟨some 6,none,.mv (.t 43)⟩])
 (.ret)) (onEnd [] r100 (ib ((T.mk k n ts).cnt b d)) []))):=by
  intro a0 σ q7 q1 q2 q3 qo q24 q25 q26 hres
  simp only [cells_mk] at qo
  refine W_loop (fun m σ=>∃ (i:Nat) (a:Int),i + m=ts.length ∧ T.cntL k b d i a (ts.drop i)=T.cntL k b d 0 a0 ts ∧ σ.sl 7=.c (.v (.int .i64 a)) ∧ σ.sl 1=.c (.v (.int .i64 b)) ∧ σ.sl 2=.c (.v (.int .i64 d)) ∧ σ.sl 3=.c (.ref 100003 (σ.tg 100003) 0) ∧ σ.ob 100003=some (.box 24 (T.mk k n ts).cells) ∧ σ.sl 24=.c (.sl 3 40 (ts.map T.cells)) ∧ σ.sl 25=.c (.v (.int .i64 ts.length)) ∧ σ.sl 26=.c (.v (.int .i64 i))) ts.length ?_ ?_
  ·exact ⟨0,a0,by simp [q7,q1,q2,q3,qo,q24,q25,q26,cells_mk]⟩
  ·rintro m σ ⟨i,a,hm,hp,q7,q1,q2,q3,qo,q24,q25,q26⟩
   unfold c100b0
   simp only [cells_mk] at qo
   by_cases hi:i < ts.length
   ·obtain ⟨t,ht⟩:=at_of hi
    obtain ⟨_,ht'⟩:=getE ht
    have w1:=wrap_succ (i:=i) (by omega)
    rw [drop_at ht,T.cntL] at hp
    simp [q7,q1,q2,q3,qo,q24,q25,q26,hi,ht']
    refine W_dregA ?_
    simp [q7,q1,q2,q3,qo,q24,q25,q26,hi,ht']
    refine CallA.fn (fn31 k i) (by simp [ib]) (by simp) rfl ?_
    simp [ib]
    refine CallA.fn (ih t (List.mem_of_getElem? ht) (IntKind.wrap .i64 (d + bindsOf k i))) (by simp [tm,ib]) (by simp) rfl ?_
    simp [ib]
    refine realC_n ?_
    simp [q26]
    refine ⟨m - 1,by omega,i + 1,by omega,_,hp,?_⟩
    simp [q1,q2,q3,qo,q24,q25,cells_mk,w1]
   ·simp [q7,q1,q2,q3,qo,q24,q25,q26,hi,r100,ib,← hres]
    rw [← hp,List.drop_eq_nil_of_le (by omega),T.cntL]
 unfold c100
 by_cases hc:k=1
 ·subst hc
  by_cases hn:n=IntKind.wrap .i64 (b + d)
  ·subst hn
   simp [s0,s1,s2]
   have w1:IntKind.wrap .i64 1=1:=wrap_id (by omega) (by omega)
   exact loop 1 _ (by simp [w1]) (by simp [s1]) (by simp [s2]) (by simp) (by simp [cells_mk]) (by simp) (by simp) (by simp) (by simp [T.cnt])
  ·simp [s0,s1,s2,hn]
   exact loop 0 _ (by simp) (by simp [s1]) (by simp [s2]) (by simp) (by simp [cells_mk]) (by simp) (by simp) (by simp) (by simp [T.cnt,hn])
 ·simp [s0,s1,s2,hc]
  exact loop 0 _ (by simp) (by simp [s1]) (by simp [s2]) (by simp) (by simp [cells_mk]) (by simp) (by simp) (by simp) (by simp [T.cnt,hc])
theorem fn52 (t:T) (b:Int):Fn Try.prog 11 [tm t,ib b] (ib (if 0 ≤ b ∧ b ≤ 65535 then t.cnt b 0 else 0)):=by
 refine fn_of (base:=52000) ok52 rfl fun σ h0 hr=>?_
 have s0:=h0 0
 have s1:=h0 1
 rw [slots0] at s0
 rw [slots1] at s1
 simp only [tm,ib] at s0 s1
 clear h0 hr
 unfold c52
 simp [s0,s1]
 refine ECall.fn (fn97 b) (by simp [ib]) (by simp) rfl fun _=>?_
 by_cases hb:0 ≤ b ∧ b ≤ 65535
 ·simp [bb,hb,s1]
  refine ECall.fn (fn100 t b 0) (by simp [ib,tm]) (by simp) rfl fun _=>?_
  simp [ib,r52]
 ·have:(decide (0 ≤ b) && decide (b ≤ 65535))=false:=by simpa using hb
  rw [if_neg hb]
  simp [bb,this,r52,ib]
end Go.Abs

namespace Go.Abs
def c76:SCode:=
 .seq (.reg [o_ 2 (.alloc 24 [.v (.int .i64 0),.v (.int .i64 0),.cap 3 40 []])]) (.seq (.reg [m_ 3 0,o_ 4 (.build 24 [.v (.int .i64 0),.v (.int .i64 0),.cap 3 40 []] [(0,0,1,.k (.int .i64 1)),(1,1,1,.t 3)]),n_ (.stn 24 3 (.t 2) (.t 4))]) (.ret))
def r76:List RR:=[.cn 2 3]
theorem ok76:okFn Go.Proofs.Try.prog 22 5 c76 r76 1=true:=by kernel_rfl
end Go.Abs

namespace Go.Abs
open Go.Proofs
theorem fn76 (n:Int):Fn Try.prog 22 [ib n] (tm (.mk 1 n [])):=by
 refine fn_of (base:=76000) ok76 rfl fun σ h0 hr=>?_
 have s0:=h0 0
 rw [slots0] at s0
 simp only [ib] at s0
 clear h0 hr
 unfold c76
 simp [s0,r76,tm,cells_mk]
def shO (fr by_ e:Int) (tf tb te:Nat):Objs:=[(49005,tf,.box 3 [.v (.int .i64 fr)]),(49004,tb,.box 3 [.v (.int .i64 by_)]),(49008,te,.box 27 [.v (.int .i64 e)])]
theorem shO_get {fr b e:Int} {tf tb te k t:Nat} {q:Obj} (h:(shO fr b e tf tb te).lookup k=some (t,q)):(k=49005 ∧ t=tf ∧ q=.box 3 [.v (.int .i64 fr)]) ∨ (k=49004 ∧ t=tb ∧ q=.box 3 [.v (.int .i64 b)]) ∨ (k=49008 ∧ t=te ∧ q=.box 27 [.v (.int .i64 e)]):=by
 simp only [shO,List.lookup_cons,List.lookup_nil] at h
 split at h
 ·rename_i hk;cases h;exact .inl ⟨by simpa using hk,rfl,rfl⟩
 ·split at h
  ·rename_i hk;cases h;exact .inr (.inl ⟨by simpa using hk,rfl,rfl⟩)
  ·split at h
   ·rename_i hk;cases h;exact .inr (.inr ⟨by simpa using hk,rfl,rfl⟩)
   ·cases h
def shV (fr b n d:Int):T:=if n < IntKind.wrap .i64 (fr + d) then .mk 1 n [] else .mk 1 (IntKind.wrap .i64 (n + b)) []
def shE (fr b n d e:Int):Int:=if n < IntKind.wrap .i64 (fr + d) then e else if 65535 < IntKind.wrap .i64 (n + b) then 6 else e
theorem sp99 (fr b e n d:Int) (tf tb te:Nat):Spec Try.prog 21 [ib n,ib d,.c (.ref 49005 tf 0),.c (.ref 49004 tb 0),.c (.ref 49008 te 0)] (shO fr b e tf tb te) (tm (shV fr b n d)) (shO fr b (shE fr b n d e) tf tb te):=by
 refine spec_of (base:=99000) ok99 rfl fun T hT hr=>?_
 have t1:=hT 49005 tf _ rfl
 have t2:=hT 49004 tb _ rfl
 have t3:=hT 49008 te _ rfl
 clear hT hr
 generalize hσ:(⟨slotsOf [ib n,ib d,.c (.ref 49005 tf 0),.c (.ref 49004 tb 0),.c (.ref 49008 te 0)],obsOf (shO fr b e tf tb te),T⟩:St)=σ
 have s0:σ.sl 0=.c (.v (.int .i64 n)):=by rw [← hσ];rfl
 have s1:σ.sl 1=.c (.v (.int .i64 d)):=by rw [← hσ];rfl
 have s2:σ.sl 2=.c (.ref 49005 tf 0):=by rw [← hσ];rfl
 have s3:σ.sl 3=.c (.ref 49004 tb 0):=by rw [← hσ];rfl
 have s4:σ.sl 4=.c (.ref 49008 te 0):=by rw [← hσ];rfl
 have o1:σ.ob 49005=some (.box 3 [.v (.int .i64 fr)]):=by rw [← hσ];rfl
 have o2:σ.ob 49004=some (.box 3 [.v (.int .i64 b)]):=by rw [← hσ];rfl
 have o3:σ.ob 49008=some (.box 27 [.v (.int .i64 e)]):=by rw [← hσ];rfl
 have g1:σ.tg 49005=tf:=by rw [← hσ];exact t1
 have g2:σ.tg 49004=tb:=by rw [← hσ];exact t2
 have g3:σ.tg 49008=te:=by rw [← hσ];exact t3
 clear hσ
 have fin:∀ σ':St,σ'.ob 49005=some (.box 3 [.v (.int .i64 fr)]) → σ'.ob 49004=some (.box 3 [.v (.int .i64 b)]) → σ'.ob 49008=some (.box 27 [.v (.int .i64 (shE fr b n d e))]) → σ'.tg 49005=tf → σ'.tg 49004=tb → σ'.tg 49008=te →
   (∀ r,r ∈ r99 → rrGok σ' r) → resOf σ' r99=some (tm (shV fr b n d)) → EndOK (shO fr b e tf tb te) r99 (tm (shV fr b n d)) (shO fr b (shE fr b n d e) tf tb te) σ':=fun σ' a1 a2 a3 b1 b2 b3 hg hres=>by
  refine ⟨hg,hres,fun k t q h=>?_⟩
  rcases shO_get h with ⟨rfl,rfl,rfl⟩ | ⟨rfl,rfl,rfl⟩ | ⟨rfl,rfl,rfl⟩
  ·exact ⟨a1,b1,_,rfl⟩
  ·exact ⟨a2,b2,_,rfl⟩
  ·exact ⟨a3,b3,_,rfl⟩
 unfold c99
 by_cases h1:n < IntKind.wrap .i64 (fr + d)
 ·simp [s0,s1,s2,o1,g1,h1]
  refine ECall.fn (fn76 n) (by simp [ib]) (by simp) (by simp [tm]) fun _=>?_
  simp [tm]
  refine fin _ (by simp [o1]) (by simp [o2]) (by simp [o3,shE,h1]) (by simp [g1]) (by simp [g2]) (by simp [g3]) (by simp [r99]) (by simp [r99,tm,shV,h1])
 ·by_cases h2:65535 < IntKind.wrap .i64 (n + b)
  ·simp [s0,s1,s2,s3,s4,o1,o2,o3,g1,g2,g3,h1,h2]
   refine ECall.fn (fn76 (IntKind.wrap .i64 (n + b))) (by simp [ib]) (by simp) (by simp [tm]) fun _=>?_
   simp [tm]
   refine fin _ (by simp [o1]) (by simp [o2]) (by simp [o3,shE,h1,h2]) (by simp [g1]) (by simp [g2]) (by simp [g3]) (by simp [r99]) (by simp [r99,tm,shV,h1])
  ·simp [s0,s1,s2,s3,s4,o1,o2,o3,g1,g2,g3,h1,h2]
   refine ECall.fn (fn76 (IntKind.wrap .i64 (n + b))) (by simp [ib]) (by simp) (by simp [tm]) fun _=>?_
   simp [tm]
   refine fin _ (by simp [o1]) (by simp [o2]) (by simp [o3,shE,h1,h2]) (by simp [g1]) (by simp [g2]) (by simp [g3]) (by simp [r99]) (by simp [r99,tm,shV,h1])
end Go.Abs

namespace Go.Abs
def nk:List (List Cell) → Cell
 | []=>.sl 3 40 []
 | l=>.nsl 3 40 l
mutual
def T.ncells:T → List Cell
 | .mk k n ts=>[.v (.int .i64 k),.v (.int .i64 n),nk (T.ncellsL ts)]
def T.ncellsL:List T → List (List Cell)
 | []=>[]
 | t :: ts=>T.ncells t :: T.ncellsL ts
end
theorem ncellsL_map:∀ ts:List T,T.ncellsL ts=ts.map T.ncells
 | []=>by simp [T.ncellsL]
 | t :: ts=>by simp [T.ncellsL,ncellsL_map ts]
theorem ncells_mk (k n:Int) (ts:List T):T.ncells (.mk k n ts)=[.v (.int .i64 k),.v (.int .i64 n),nk (ts.map T.ncells)]:=by rw [T.ncells,ncellsL_map]
theorem ncells_eq (t:T):t.ncells=[.v (.int .i64 t.kind),.v (.int .i64 t.val),nk (t.kids.map T.ncells)]:=by cases t;exact ncells_mk _ _ _
theorem nk_cases (l:List (List Cell)):nk l=.sl 3 40 l ∨ nk l=.nsl 3 40 l:=by cases l <;> simp [nk]
@[simp] theorem nk_toD (σ:St) (l:List (List Cell)):toD σ (nk l)=nk l:=by rcases nk_cases l with h | h <;> rw [h] <;> rfl
@[simp] theorem nk_isD (l:List (List Cell)):(nk l).isD=true:=by rcases nk_cases l with h | h <;> rw [h] <;> rfl
@[simp] theorem nk_keys (l:List (List Cell)):(nk l).keys=[]:=by rcases nk_cases l with h | h <;> rw [h] <;> rfl
@[simp] theorem ncells_len (t:T):t.ncells.length=3:=by rw [ncells_eq];rfl
@[simp] theorem ncells_take (t:T):t.ncells.take 3=t.ncells:=by rw [ncells_eq];rfl
@[simp] theorem ncells_toD (σ:St) (t:T):t.ncells.map (toD σ)=t.ncells:=by rw [ncells_eq];rcases nk_cases (t.kids.map T.ncells) with h | h <;> rw [h] <;> rfl
@[simp] theorem ncells_keys (t:T):keysCs t.ncells=[]:=by rw [ncells_eq];show [] ++ ([] ++ ((nk _).keys ++ []))=[];simp
theorem ncells_isD (t:T):t.ncells.all Cell.isD=true:=by rw [ncells_eq];rcases nk_cases (t.kids.map T.ncells) with h | h <;> rw [h] <;> rfl
@[simp] theorem ncells_isD' (t:T) (c:Cell) (h:c ∈ t.ncells):c.isD=true:=List.all_eq_true.1 (ncells_isD t) c h
@[simp] theorem nputC_all (t:T) (a b c:Cell):putC [a,b,c] 0 t.ncells=t.ncells:=by rw [ncells_eq];rfl
def tmn (t:T):AV:=.agg t.ncells
@[simp] theorem tmn_un (t:T):un (tmn t)=tmn t:=rfl
theorem nk_weak {g:Gh} {w:World}:∀ (t:T) (v:Value),RD g w (nk (t.kids.map T.ncells)) v → RD g w (.sl 3 40 (t.kids.map T.cells)) v:=by
 refine T.ind fun k n ts ih v h=>?_
 simp only [kids_mk] at h ⊢
 have elem:∀ (u:T),u ∈ ts → ∀ (j:Nat) (d:Cell) (x:Value),u.cells[j]? = some d → (∀ d',u.ncells[j]? = some d' → RD g w d' x) → RD g w d x:=fun u hu j d x h1 h2=>by
  rw [cells_eq] at h1
  rw [ncells_eq] at h2
  match j with
  | 0=>simp at h1;subst h1;exact h2 _ rfl
  | 1=>simp at h1;subst h1;exact h2 _ rfl
  | 2=>simp at h1;subst h1;exact ih u hu x (h2 _ rfl)
  | j + 3=>simp at h1
 have len:∀ (i:Nat) l,(ts.map T.cells)[i]? = some l → ∃ u,u ∈ ts ∧ l=u.cells ∧ (ts.map T.ncells)[i]? = some u.ncells:=fun i l h=>by
  rw [List.getElem?_map] at h
  obtain ⟨u,h1,h2⟩:=Option.map_eq_some_iff.1 h
  exact ⟨u,List.mem_of_getElem? h1,h2.symm,by rw [List.getElem?_map,h1];rfl⟩
 have lenj:∀ (u:T) (j:Nat) (d:Cell),u.cells[j]? = some d → ∃ d',u.ncells[j]? = some d':=fun u j d h=>by
  have:=(List.getElem?_eq_some_iff.1 h).1
  rw [cells_len] at this
  exact ⟨u.ncells[j]'(by rw [ncells_len];exact this),List.getElem?_eq_getElem _⟩
 have gen:∀ (a:Option Addr) (c:Nat) (vs:Nat → Nat → Value),(ts.map T.ncells).length ≤ c → (ts.map T.ncells).length * 40 ≤ room →
   (∀ i j l d,(ts.map T.ncells)[i]? = some l → l[j]? = some d → ∃ ad,a=some ad ∧ Lies g w (ad.add (i * 3 + j)) (vs i j)) → (∀ i j l d,(ts.map T.ncells)[i]? = some l → l[j]? = some d → RD g w d (vs i j)) →
   RD g w (.sl 3 40 (ts.map T.cells)) (.slice a (ts.map T.ncells).length c):=fun a c vs a1 a2 a4 a5=>by
  have e:(ts.map T.ncells).length=(ts.map T.cells).length:=by simp
  rw [e] at a1 a2 ⊢
  refine .sl 3 40 _ a c vs a1 a2 (fun l hl=>?_) (fun i j l d h1 h2=>?_) (fun i j l d h1 h2=>?_)
  ·obtain ⟨u,_,rfl⟩:=List.mem_map.1 hl;simp
  ·obtain ⟨u,hu,rfl,hn⟩:=len i l h1
   obtain ⟨d',hd'⟩:=lenj u j d h2
   exact a4 i j _ d' hn hd'
  ·obtain ⟨u,hu,rfl,hn⟩:=len i l h1
   exact elem u hu j d _ h2 fun d' hd'=>a5 i j _ d' hn hd'
 rcases nk_cases (ts.map T.ncells) with e | e <;> rw [e] at h
 ·cases h with
  | sl _ _ _ a c vs a1 a2 a3 a4 a5=>exact gen a c vs a1 a2 a4 a5
 ·cases h with
  | nsl _ _ _ b ty vs a2 a3 a4 a6 a7 a8 a5=>exact gen (some ⟨b,0,none⟩) _ vs (Nat.le_refl _) a2 (fun i j l d h1 h2=>⟨_,rfl,by rw [add_blk,Nat.zero_add];exact a4 i j l d h1 h2⟩) a5
theorem RC_nk {g:Gh} {w:World} {l:List (List Cell)} {v:Value} (h:RC g w (nk l) v):RD g w (nk l) v:=by
 rcases nk_cases l with e | e <;> rw [e] at h ⊢ <;> exact h
theorem tmn_weak (t:T):Wk (tmn t) (tm t):=fun g w v h=>by
 obtain ⟨vs,e,h⟩:=h
 refine ⟨vs,e,?_⟩
 rw [ncells_eq] at h
 rw [cells_eq]
 match hv:vs.toList,h with
 | [x,y,z],⟨h1,h2,h3,_⟩=>exact ⟨h1,h2,nk_weak t z (RC_nk h3),trivial⟩
 | [],h=>exact h.elim
 | [_],h=>exact h.2.elim
 | [_,_],h=>exact h.2.2.elim
 | _ :: _ :: _ :: _ :: _,h=>exact h.2.2.2.elim
theorem Spec.weakR {P:Program} {f:Nat} {args:List AV} {ins outs:Objs} {res res':AV} (h:Spec P f args ins res outs) (hw:Wk res res'):Spec P f args ins res' outs:=
 ⟨h.1,fun g w vs h1 h2 h3 h4=>(h.2 g w vs h1 h2 h3 h4).mono fun e w' ⟨v,g',he,hp⟩=>⟨v,g',he,{ hp with res:=hw g' w' v hp.res }⟩⟩
theorem tmn_ib_weak (t:T) (n:Int):Wk (.tup [tmn t,ib n]) (.tup [tm t,ib n]):=fun g w v h=>by
 obtain ⟨vs,e,h⟩:=h
 refine ⟨vs,e,?_⟩
 match hv:vs.toList,h with
 | [x,y],⟨h1,h2,_⟩=>exact ⟨tmn_weak t g w x h1,h2,trivial⟩
 | [],h=>exact h.elim
 | [_],h=>exact h.2.elim
 | _ :: _ :: _ :: _,h=>exact h.2.2.elim
theorem tmn_leaf (k n:Int):tmn (.mk k n [])=tm (.mk k n []):=by simp [tmn,tm,ncells_mk,cells_mk,nk]
end Go.Abs

namespace Go.Abs
open Go.Proofs
section
variable {S:Type} (V:S → Int → Int → T) (N:S → Int → Int → S)
mutual
def T.mapS:T → S → Int → T × S
 | .mk k n ts,s,d=>if k=1 then (V s n d,N s n d) else (.mk k n (T.mapSL k d 0 ts s).1,(T.mapSL k d 0 ts s).2)
def T.mapSL (k d:Int):Int → List T → S → List T × S
 | _,[],s=>([],s)
 | i,t :: ts,s=>((T.mapS t s (IntKind.wrap .i64 (d + bindsOf k i))).1 :: (T.mapSL k d (i + 1) ts (T.mapS t s (IntKind.wrap .i64 (d + bindsOf k i))).2).1,(T.mapSL k d (i + 1) ts (T.mapS t s (IntKind.wrap .i64 (d + bindsOf k i))).2).2)
end
end
theorem Holds.puts {σ:St} {l:Objs} (h:∀ k t q,l.lookup k=some (t,q) → σ.tg k=t):Holds (σ.puts l) l:=fun k t q hk=>⟨puts_some hk,h k t q hk⟩
theorem sp98 {S:Type} {V:S → Int → Int → T} {N:S → Int → Int → S} {f:Nat} {rs:List (Nat × Nat)} {O:S → Objs} (H:∀ s n d,Spec Try.prog f ([ib n,ib d] ++ refs rs) (O s) (tmn (V s n d)) (O (N s n d)))
  (hkin:∀ s s',Kin (O s) (O s')) (hloc:∀ s k,98000 ≤ k → k < 99000 → (O s).lookup k=none) (t:T):∀ (s:S) (d:Int),Spec Try.prog 20 [tm t,ib d,.c (.clo f [] rs)] (O s) (tmn (t.mapS V N s d).1) (O (t.mapS V N s d).2):=by
 induction t using T.ind with
 | h k n ts ih=>
 intro s d
 refine spec_of (base:=98000) ok98 rfl fun T0 hT hr=>?_
 have hlen:=real_kids (hr (tm (.mk k n ts)) (by simp))
 rw [kids_mk] at hlen
 clear hr
 generalize hσ:(⟨slotsOf [tm (.mk k n ts),ib d,.c (.clo f [] rs)],obsOf (O s),T0⟩:St)=σ
 have s0:σ.sl 0=tm (.mk k n ts):=by rw [← hσ];rfl
 have s1:σ.sl 1=.c (.v (.int .i64 d)):=by rw [← hσ];rfl
 have s2:σ.sl 2=.c (.clo f [] rs):=by rw [← hσ];rfl
 have hold:Holds σ (O s):=fun k t q h=>by
  rw [← hσ]
  exact ⟨by simp only [obsOf,h];rfl,hT k t q h⟩
 clear hσ hT
 simp only [tm,cells_mk] at s0
 have stay:∀ (s':S) (σ':St),(∀ k,¬ (98000 ≤ k ∧ k < 99000) → σ'.tg k=σ.tg k) → ∀ k t q,(O s').lookup k=some (t,q) → σ'.tg k=t:=fun s' σ' h k t q hk=>by
  obtain ⟨q',hq⟩:=(hkin s s').back k t q hk
  rw [h k fun hc=>by rw [hloc s' k hc.1 hc.2] at hk;cases hk]
  exact (hold k t q' hq).2
 have pn:∀ (k:Nat),98000 ≤ k → k < 99000 → ∀ (τ:St) (s':S),(τ.puts (O s')).ob k=τ.ob k:=fun k h1 h2 τ s'=>puts_none (hloc s' k h1 h2)
 have fin:∀ (s':S) (r:T) (σ':St),(T.mapS V N (.mk k n ts) s d)=(r,s') → (∀ k t q,(O s').lookup k=some (t,q) → σ'.ob k=some q) → (∀ k,¬ (98000 ≤ k ∧ k < 99000) → σ'.tg k=σ.tg k) →
   (∀ r,r ∈ r98 → rrGok σ' r) → resOf σ' r98=some (tmn r) → EndOK (O s) r98 (tmn (T.mapS V N (.mk k n ts) s d).1) (O (T.mapS V N (.mk k n ts) s d).2) σ':=fun s' r σ' he ho ht hg hres=>by
  rw [he]
  refine ⟨hg,hres,fun k t q h=>⟨ho k t q h,stay s' σ' ht k t q h,?_⟩⟩
  exact (hkin s s').back k t q h
 unfold c98
 by_cases hk:k=1
 ·subst hk
  simp [s0,s1,s2]
  refine ECall.obj (H s n d) (by simp [ib]) (by simp) (by simp [tmn]) ?_ (hkin _ _) fun _=>?_
  ·intro k t q h
   obtain ⟨a,b⟩:=hold k t q h
   have:¬ (98000 ≤ k ∧ k < 99000):=fun hc=>by rw [hloc s k hc.1 hc.2] at h;cases h
   have n1:k ≠ 98003:=by omega
   have n2:k ≠ 98006:=by omega
   simp [a,b,n1,n2]
  ·simp [tmn,pn 98006 (by omega) (by omega),cells_len]
   refine fin _ _ _ rfl ?_ ?_ (by simp [r98]) (by simp [r98,T.mapS,tmn])
   ·intro k t q h
    have:¬ (98000 ≤ k ∧ k < 99000):=fun hc=>by rw [hloc _ k hc.1 hc.2] at h;cases h
    have n2:k ≠ 98006:=by omega
    simp [puts_some h,n2]
   ·intro k hk
    have n1:k ≠ 98003:=by omega
    have n2:k ≠ 98006:=by omega
    simp [n1,n2]
 ·by_cases h0:ts=[]
  ·subst h0
   simp [s0,s1,s2,hk]
   refine fin s (.mk k n []) _ (by simp [T.mapS,T.mapSL,hk]) ?_ ?_ (by simp [r98]) (by simp [r98,tmn,ncells_mk,nk])
   ·intro k' t q h
    have:¬ (98000 ≤ k' ∧ k' < 99000):=fun hc=>by rw [hloc _ k' hc.1 hc.2] at h;cases h
    have n1:k' ≠ 98003:=by omega
    have n2:k' ≠ 98006:=by omega
    simp [n1,n2,(hold k' t q h).1]
   ·intro k' hk'
    have n1:k' ≠ 98003:=by omega
    have n2:k' ≠ 98006:=by omega
    simp [n1,n2]
  ·have hl0:¬ (ts.length=0):=fun h=>h0 (List.length_eq_zero_iff.1 h)
   simp [s0,s1,s2,hk,h0,room]
   refine ⟨by omega,?_⟩
   refine W_loop (fun m σ'=>∃ (i:Nat) (s':S) (done:List T),i + m=ts.length ∧ done.length=i ∧ (done ++ (T.mapSL V N k d i (ts.drop i) s').1,(T.mapSL V N k d i (ts.drop i) s').2)=T.mapSL V N k d 0 ts s ∧
    (∀ k t q,(O s').lookup k=some (t,q) → σ'.ob k=some q) ∧ (∀ k,¬ (98000 ≤ k ∧ k < 99000) → σ'.tg k=σ.tg k) ∧
    σ'.sl 1=.c (.v (.int .i64 d)) ∧ σ'.sl 2=.c (.clo f [] rs) ∧ σ'.sl 3=.c (.ref 98003 (σ'.tg 98003) 0) ∧ σ'.ob 98003=some (.box 24 (T.mk k n ts).cells) ∧
    σ'.sl 6=.c (.ref 98006 (σ'.tg 98006) 0) ∧ σ'.ob 98006=some (.box 24 [.v (.int .i64 0),.v (.int .i64 0),.cap 3 40 []]) ∧
    σ'.sl 7=.c (.own 98027 (σ'.tg 98027)) ∧ σ'.ob 98027=some (.mrow 24 3 40 (done.map T.ncells ++ List.replicate (ts.length - i) [.v (.int .i64 0),.v (.int .i64 0),.sl 3 40 []])) ∧
    σ'.sl 29=.c (.sl 3 40 (ts.map T.cells)) ∧ σ'.sl 30=.c (.v (.int .i64 ts.length)) ∧ σ'.sl 31=.c (.v (.int .i64 i))) ts.length ?_ ?_
   ·refine ⟨0,s,[],by simp,rfl,by simp,?_,?_,?_⟩
    ·intro k' t q h
     have:¬ (98000 ≤ k' ∧ k' < 99000):=fun hc=>by rw [hloc _ k' hc.1 hc.2] at h;cases h
     have n1:k' ≠ 98003:=by omega
     have n2:k' ≠ 98006:=by omega
     have n3:k' ≠ 98027:=by omega
     simp [n1,n2,n3,(hold k' t q h).1]
    ·intro k' hk'
     have n1:k' ≠ 98003:=by omega
     have n2:k' ≠ 98006:=by omega
     have n3:k' ≠ 98027:=by omega
     simp [n1,n2,n3]
    ·simp [s1,s2,cells_mk]
   ·rintro m σ' ⟨i,s',done,hm,hd,hp,ho,ht,q1,q2,q3,o3,q6,o6,q7,o7,q29,q30,q31⟩
    unfold c98b0
    simp only [cells_mk] at o3
    by_cases hi:i < ts.length
    ·obtain ⟨t,ht0⟩:=at_of hi
     obtain ⟨_,ht'⟩:=getE ht0
     have w1:=wrap_succ (i:=i) (by omega)
     rw [drop_at ht0,T.mapSL] at hp
     simp [q1,q2,q3,o3,q6,o6,q7,o7,q29,q30,q31,hi,ht']
     refine W_dregE 10 ((O (T.mapS V N t s' (IntKind.wrap .i64 (d + bindsOf k i))).2).map (·.1)) ?_
     generalize hkf:(O (T.mapS V N t s' (IntKind.wrap .i64 (d + bindsOf k i))).2).map (·.1)=kf
     have nk:∀ k2,98000 ≤ k2 → k2 < 99000 → (k2 ∈ kf)=False:=fun k2 h1 h2=>by
      have:=hloc (T.mapS V N t s' (IntKind.wrap .i64 (d + bindsOf k i))).2 k2 h1 h2
      simp only [eq_iff_iff,iff_false]
      rw [← hkf]
      intro hm
      obtain ⟨p,hp2,rfl⟩:=List.mem_map.1 hm
      have h3:=List.lookup_eq_none_iff.1 this p hp2
      simp at h3
     simp [q1,q2,q3,o3,q6,o6,q7,o7,q29,q30,q31,hi,ht',SOp.args,nk]
     refine FCall.fn (fn31 k i) (by simp [ib]) (by simp) rfl (by simp [nk]) (by simp) ?_
     simp [ib,q1,q2,q3,o3,q6,o6,q7,o7,q29,q30,q31,hi,ht',SOp.args,nk]
     refine ⟨.inr (.inl (by first | rfl | decide | (simp [FX.rel];done) | (simp [FX.rel];decide))),?_⟩
     refine FCall.obj (rs:=[]) (args:=[tm t,ib (IntKind.wrap .i64 (d + bindsOf k i)),.c (.clo f [] rs)]) rfl (by simpa [refs] using ih t (List.mem_of_getElem? ht0) s' (IntKind.wrap .i64 (d + bindsOf k i))) (by simp [tm,ib]) (by simp) (by simp [tmn]) ?_ (hkin _ _) (by rw [← hkf];exact fun k hk=>hk) ?_
     ·intro k' t' q h
      have hr:¬ (98000 ≤ k' ∧ k' < 99000):=fun hc=>by rw [hloc _ k' hc.1 hc.2] at h;cases h
      have n4:k' ≠ 98009:=by omega
      have a1:=ho k' t' q h
      have a2:=stay s' σ' ht k' t' q h
      simp [n4,a1,a2]
     ·have hz:(List.map T.ncells done ++ List.replicate (ts.length - i) [Cell.v (Value.int .i64 0),Cell.v (Value.int .i64 0),Cell.sl 3 40 []])[i]? = some [Cell.v (Value.int .i64 0),Cell.v (Value.int .i64 0),Cell.sl 3 40 []]:=by
       have h1:i - (List.map T.ncells done).length < ts.length - i:=by rw [List.length_map,hd];omega
       rw [List.getElem?_append_right (by rw [List.length_map,hd];exact Nat.le_refl _),List.getElem?_replicate,if_pos h1]
      have hD:∀ (u:T),(∀ x,x ∈ u.ncells → x.isD=true)=True:=fun u=>eq_true fun x hx=>ncells_isD' u x hx
      have hlt:(i:Int) < (done.length:Int) + ((ts.length - i:Nat):Int):=by omega
      simp [q1,q2,q3,o3,q6,o6,q7,o7,q29,q30,q31,hi,SOp.args,nk,pn 98027 (by omega) (by omega),pn 98003 (by omega) (by omega),tmn,hz,hD,hlt]
      refine ⟨rfl,?_⟩
      simp [realC_ap,q31]
      intro _
      refine ⟨m - 1,by omega,i + 1,by omega,(T.mapS V N t s' (IntKind.wrap .i64 (d + bindsOf k i))).2,done ++ [(T.mapS V N t s' (IntKind.wrap .i64 (d + bindsOf k i))).1],?_⟩
      have hset:∀ c:List Cell,(List.map T.ncells done ++ List.replicate (ts.length - i) [Cell.v (Value.int .i64 0),Cell.v (Value.int .i64 0),Cell.sl 3 40 []]).set i c=List.map T.ncells done ++ c :: List.replicate (ts.length - (i + 1)) [Cell.v (Value.int .i64 0),Cell.v (Value.int .i64 0),Cell.sl 3 40 []]:=fun c=>by
       have e1:ts.length - i=(ts.length - (i + 1)) + 1:=by omega
       rw [e1,List.replicate_succ,List.set_append,if_neg (by rw [List.length_map,hd];exact Nat.lt_irrefl _)]
       simp [hd]
      refine ⟨by simp [hd],by simpa using hp,?_,?_,?_⟩
      ·intro k' t' q h
       have hr:¬ (98000 ≤ k' ∧ k' < 99000):=fun hc=>by rw [hloc _ k' hc.1 hc.2] at h;cases h
       have n1:k' ≠ 98027:=by omega
       simp [n1,puts_some h]
      ·intro k' hk'
       have n4:k' ≠ 98009:=by omega
       simp [n4,ht k' (by omega)]
      ·simp [q1,q2,q3,o3,q6,o6,q7,o7,q29,q30,pn 98027 (by omega) (by omega),pn 98003 (by omega) (by omega),pn 98006 (by omega) (by omega),cells_mk,w1,hset]
    ·simp [q1,q2,q3,o3,q6,o6,q7,o7,q29,q30,q31,hi]
     have hil:i=ts.length:=by omega
     rw [List.drop_eq_nil_of_le (by omega),T.mapSL] at hp
     simp only [List.append_nil] at hp
     refine W_nz (s:=7) (k:=98027) (ty:=24) (sz:=3) (bs:=40) (es:=done.map T.ncells) (by simp [q7];rfl) (by simp) (by simp [o7,hil]) (by simp;omega) ?_
     have hnk:nk (done.map T.ncells)=.nsl 3 40 (done.map T.ncells):=by
      cases done with
      | nil=>simp at hd;omega
      | cons x l=>rfl
     simp [q1,q2,q3,o3,q6,o6,q7,o7,q29,q30,q31,hi]
     refine fin s' (.mk k n done) _ (by simp [T.mapS,hk,← hp]) ?_ ?_ (by simp [r98,q6]) (by simp [r98,tmn,ncells_mk,hnk,hil,q6,o6])
     ·intro k' t q h
      have:¬ (98000 ≤ k' ∧ k' < 99000):=fun hc=>by rw [hloc _ k' hc.1 hc.2] at h;cases h
      have n1:k' ≠ 98003:=by omega
      have n2:k' ≠ 98006:=by omega
      have n3:k' ≠ 98027:=by omega
      simp [n1,n2,n3,ho k' t q h]
     ·intro k' hk'
      simp [ht k' hk']
end Go.Abs

namespace Go.Abs
open Go.Proofs
theorem shO_kin (fr b e fr' b' e':Int) (tf tb te:Nat):Kin (shO fr b e tf tb te) (shO fr' b' e' tf tb te) where
 there k t q h:=by
  rcases shO_get h with ⟨rfl,rfl,rfl⟩ | ⟨rfl,rfl,rfl⟩ | ⟨rfl,rfl,rfl⟩ <;> exact ⟨_,rfl⟩
 back k t q h:=by
  rcases shO_get h with ⟨rfl,rfl,rfl⟩ | ⟨rfl,rfl,rfl⟩ | ⟨rfl,rfl,rfl⟩ <;> exact ⟨_,rfl⟩
 data k t q h:=by
  rcases shO_get h with ⟨rfl,rfl,rfl⟩ | ⟨rfl,rfl,rfl⟩ | ⟨rfl,rfl,rfl⟩ <;> rfl
theorem shV_leaf (fr b n d:Int):tmn (shV fr b n d)=tm (shV fr b n d):=by unfold shV;split <;> exact tmn_leaf _ _
theorem spMap (fr b:Int) (tf tb te:Nat) (t:T) (e d:Int):Spec Try.prog 20 [tm t,ib d,.c (.clo 21 [] [(49005,tf),(49004,tb),(49008,te)])] (shO fr b e tf tb te) (tmn (t.mapS (S:=Int) (fun _ n d=>shV fr b n d) (fun e n d=>shE fr b n d e) e d).1)
  (shO fr b (t.mapS (S:=Int) (fun _ n d=>shV fr b n d) (fun e n d=>shE fr b n d e) e d).2 tf tb te):=
 sp98 (O:=fun e=>shO fr b e tf tb te) (fun e n d=>by rw [shV_leaf];exact sp99 fr b e n d tf tb te) (fun e e'=>shO_kin fr b e fr b e' tf tb te) (fun e k h1 h2=>by
  cases h:(shO fr b e tf tb te).lookup k with
  | none=>rfl
  | some x=>
   obtain ⟨t,q⟩:=x
   rcases shO_get h with ⟨rfl,_⟩ | ⟨rfl,_⟩ | ⟨rfl,_⟩ <;> omega) t e d
end Go.Abs

namespace Go.Abs
open Go.Proofs
def heavyL:Int → List T → Bool
 | n,[]=>decide (9000 < n)
 | n,t :: ts=>if 300 < t.depth then true else heavyL (IntKind.wrap .i64 (n + t.size)) ts
def heavy (ts:List T):Bool:=if 60 < ts.length then true else heavyL 0 ts
theorem fn17 (ts:List T):Fn Try.prog 4 [tms ts] (bb (heavy ts)):=by
 refine fn_of (base:=17000) ok17 rfl fun σ h0 hr=>?_
 have s0:=h0 0
 rw [slots0] at s0
 have hlen:=real_tms (hr (tms ts) (by simp))
 simp only [tms] at s0
 clear h0 hr
 unfold c17
 by_cases h60:60 < ts.length
 ·have h60':(60:Int) < ts.length:=by omega
  simp [s0,h60',r17,bb,heavy,h60]
 ·have h60':¬ (60:Int) < ts.length:=by omega
  simp [s0,h60']
  refine W_loop (fun m σ=>∃ (i:Nat) (a:Int),i + m=ts.length ∧ heavyL a (ts.drop i)=heavyL 0 ts ∧ σ.sl 3=ib a ∧ σ.sl 0=tms ts ∧ σ.sl 4=ib i) ts.length ?_ ?_
  ·exact ⟨0,0,by simp [ib,tms,s0]⟩
  ·rintro m σ ⟨i,a,hm,hp,q3,q0,q4⟩
   unfold c17b0
   simp only [tms,ib] at q3 q0 q4
   by_cases hi:i < ts.length
   ·obtain ⟨t,ht⟩:=at_of hi
    obtain ⟨_,ht'⟩:=getE ht
    have w1:=wrap_succ (i:=i) (by omega)
    rw [drop_at ht,heavyL] at hp
    simp [q3,q0,q4,hi,ht']
    refine ECall.fn (fn29 t) (by simp [tm]) (by simp) rfl fun _=>?_
    simp [ib,q3,q4]
    constructor
    ·intro hd
     rw [if_pos hd] at hp
     simp [r17,bb,heavy,h60,← hp]
    ·intro hd
     have hd':¬ 300 < t.depth:=by omega
     rw [if_neg hd'] at hp
     simp [q3,q0,q4,hi,ht']
     refine ECall.fn (fn28 t) (by simp [tm]) (by simp) rfl fun _=>?_
     simp [ib,q3,q4]
     refine ⟨m - 1,by omega,i + 1,by omega,_,hp,?_⟩
     simp [q0,tms,w1]
   ·simp [q3,q0,q4,hi,r17,bb,heavy,h60]
    rw [← hp,List.drop_eq_nil_of_le (by omega),heavyL]
theorem fn64 {ts:List T} (h19:∀ t,t ∈ ts → Fn Try.prog 5 [tm t] (tm t)):Fn Try.prog 17 [tms ts] (tms ts):=by
 refine fn_of (base:=64000) ok64 rfl fun σ h0 hr=>?_
 have s0:=h0 0
 rw [slots0] at s0
 have hlen:=real_tms (hr (tms ts) (by simp))
 simp only [tms] at s0
 clear h0 hr
 unfold c64
 simp [s0]
 refine W_loop (fun m σ=>∃ (i:Nat),i + m=ts.length ∧ ((i=0 ∧ σ.sl 3=.c (.cap 3 40 [])) ∨ (0 < i ∧ σ.sl 3=.c (.own 64018 (σ.tg 64018)) ∧ σ.ob 64018=some (.row 24 3 40 ((ts.take i).map T.cells)))) ∧ σ.sl 0=tms ts ∧ σ.sl 4=ib i) ts.length ?_ ?_
 ·exact ⟨0,by simp [ib,tms,s0]⟩
 ·rintro m σ ⟨i,hm,hp,q0,q4⟩
  unfold c64b0
  simp only [tms,ib] at q0 q4
  by_cases hi:i < ts.length
  ·obtain ⟨t,ht⟩:=at_of hi
   obtain ⟨_,ht'⟩:=getE ht
   have w1:=wrap_succ (i:=i) (by omega)
   have htake:(ts.map T.cells).take i ++ [t.cells]=(ts.map T.cells).take (i + 1):=by
    rw [List.take_add_one,List.getElem?_map,ht];simp
   have hroom:(i + 1) * 40 ≤ room:=by simp only [room];omega
   have hmin:min i ts.length=i:=by omega
   rcases hp with ⟨h1,q3⟩ | ⟨h1,q3,qo⟩
   ·subst h1
    simp [q3,q0,q4,hi,ht']
    refine ECall.fn (h19 t (List.mem_of_getElem? ht)) (by simp [tm]) (by simp [tm]) (by simp [tm,AV.keys2,AV.keys1]) fun _=>?_
    simp [tm,q3,q4,room,AV.keys1,keysCs]
    refine ⟨fun x hx=>cells_isD' t x hx,m - 1,by omega,1,by omega,⟨by omega,by simpa using htake⟩,?_⟩
    simp at w1
    simp [q0,w1,ib,tms]
   ·simp [q3,q0,q4,hi,ht']
    refine ECall.fn (h19 t (List.mem_of_getElem? ht)) (by simp [tm]) (by simp [tm]) (by simp [tm,AV.keys2,AV.keys1]) fun _=>?_
    simp [tm,q3,q4,qo,hmin,hroom]
    refine ⟨⟨fun x hx=>cells_isD' t x hx,by simp [room]⟩,m - 1,by omega,i + 1,by omega,⟨by omega,htake⟩,?_⟩
    simp [q0,w1,ib,tms]
  ·simp [q0,q4,hi,r64]
   rcases hp with ⟨h1,q3⟩ | ⟨h1,q3,qo⟩
   ·have:ts=[]:=List.length_eq_zero_iff.1 (by omega)
    simp [q3,this,tms]
   ·have:ts.take i=ts:=List.take_of_length_le (by omega)
    simp [q3,qo,tms,this]
theorem fn19 (t:T):Fn Try.prog 5 [tm t] (tm t):=by
 induction t using T.ind with
 | h k n ts ih=>
 have h64:=fn64 ih
 refine fn_of (base:=19000) ok19 rfl fun σ h0 hr=>?_
 have s0:=h0 0
 rw [slots0] at s0
 simp only [tm,cells_mk] at s0
 clear h0 hr
 unfold c19
 simp [s0]
 refine W_dregA ?_
 simp
 refine CallA.fn h64 (by simp [tms]) (by simp) rfl ?_
 simp [tms]
 refine ⟨rfl,realC_n ?_⟩
 simp [r19,tm,cells_mk]
end Go.Abs

namespace Go.Abs
end Go.Abs

namespace Go.Abs
open Go.Proofs
theorem eqb_eq (t u:T):T.eqb t u=true ↔ t=u:=by
 induction t using T.ind generalizing u with
 | h k n ts ih=>
 obtain ⟨k',n',us⟩:=u
 have key:∀ (ts us:List T),(∀ t,t ∈ ts → ∀ u,T.eqb t u=true ↔ t=u) → (T.eqbL ts us=true ↔ ts=us):=by
  intro ts
  induction ts with
  | nil=>intro us _;cases us <;> simp [T.eqbL]
  | cons t ts ih2=>
   intro us h
   cases us with
   | nil=>simp [T.eqbL]
   | cons u us=>
    simp only [T.eqbL,Bool.and_eq_true,List.cons.injEq]
    rw [h t (by simp) u,ih2 us fun t ht=>h t (by simp [ht])]
 simp only [T.eqb,Bool.and_eq_true,decide_eq_true_eq,T.mk.injEq]
 rw [key ts us ih]
 exact ⟨fun h=>⟨h.1.1,h.1.2,h.2⟩,fun h=>⟨⟨h.1,h.2.1⟩,h.2.2⟩⟩
theorem eqb_self (t:T):T.eqb t t=true:=(eqb_eq t t).2 rfl
def wk:T:=.mk 5 0 [.mk 2 0 [],.mk 1 0 []]
end Go.Abs

namespace Go.Abs
open Go.Proofs
def T.zero:T:=.mk 0 0 []
def T.shiftM (t:T) (b fr:Int):T × Int:=t.mapS (S:=Int) (fun _ n d=>shV fr b n d) (fun e n d=>shE fr b n d e) 0 0
def mayB (x:Int):Bool:=decide (0 ≤ x) && decide (x ≤ 65535)
def T.shift (t:T) (b fr:Int):T × Int:=
 if t.check ≠ 0 then (.zero,t.check) else if !(mayB b && mayB fr) then (.zero,1) else if (t.shiftM b fr).2 ≠ 0 then (.zero,(t.shiftM b fr).2) else ((t.shiftM b fr).1,0)
theorem fn49n (t:T) (b fr:Int):Fn Try.prog 6 [tm t,ib b,ib fr] (.tup [tmn (t.shift b fr).1,ib (t.shift b fr).2]):=by
 refine fn_of (base:=49000) ok49 rfl fun σ h0 hr=>?_
 have s0:=h0 0
 have s1:=h0 1
 have s2:=h0 2
 rw [slots0] at s0
 rw [slots1] at s1
 rw [slots2] at s2
 simp only [tm,ib] at s0 s1 s2
 clear h0 hr
 unfold c49
 simp [s0,s1,s2]
 refine ECall.fn (fn22 t) (by simp [tm]) (by simp) (by simp [ib]) fun _=>?_
 simp [ib]
 refine ⟨fun hc=>?_,fun hc=>?_⟩
 ·refine W_dregE 2 [49006] ?_
  simp [SOp.args,s0,s1,s2]
  refine realC_n ?_
  simp [r49,T.shift,hc,tmn,ncells_mk,nk,T.zero]
 ·simp [hc,s0,s1,s2]
  refine ECall.fn (fn97 b) (by simp [ib]) (by simp) (by simp [bb]) fun _=>?_
  simp [bb,s0,s1,s2]
  refine GCall.fn (fun _=>fn97 fr) (by simp [ib]) (by simp) (by simp [bb]) fun _=>?_
  simp [bb,r49]
  refine ⟨fun hm=>?_,fun m1 m2 m3 m4=>?_⟩
  ·have hm':(mayB b && mayB fr)=false:=by
    simp only [mayB,Bool.and_eq_false_iff,decide_eq_false_iff_not];omega
   simp [T.shift,hc,hm',tmn,ncells_mk,nk,T.zero]
  ·have hm':(mayB b && mayB fr)=true:=by
    simp only [mayB,Bool.and_eq_true,decide_eq_true_eq];omega
   refine ECall.obj (rs:=[]) (args:=[tm t,ib 0,.c (.clo 21 [] [(49005,σ.tg 49005 + 1),(49004,σ.tg 49004 + 1),(49008,σ.tg 49008 + 1)])])
    (by simpa [refs] using spMap fr b (σ.tg 49005 + 1) (σ.tg 49004 + 1) (σ.tg 49008 + 1) t 0 0) (by simp [tm,ib]) (by simp) (by simp [tmn]) ?_ (shO_kin _ _ _ _ _ _ _ _ _) fun _=>?_
   ·intro k t' q h
    rcases shO_get h with ⟨rfl,rfl,rfl⟩ | ⟨rfl,rfl,rfl⟩ | ⟨rfl,rfl,rfl⟩ <;> simp [hc]
   ·have e8:∀ τ:St,(τ.puts (shO fr b (t.shiftM b fr).2 (σ.tg 49005 + 1) (σ.tg 49004 + 1) (σ.tg 49008 + 1))).ob 49008=some (.box 27 [.v (.int .i64 (t.shiftM b fr).2)]):=fun τ=>puts_some rfl
    have n6:∀ (τ:St),(τ.puts (shO fr b (t.shiftM b fr).2 (σ.tg 49005 + 1) (σ.tg 49004 + 1) (σ.tg 49008 + 1))).ob 49006=τ.ob 49006:=fun τ=>puts_none rfl
    simp only [T.shiftM] at e8 n6
    simp [tmn,e8,n6]
    have hsh:t.shift b fr=if (t.shiftM b fr).2 ≠ 0 then (.zero,(t.shiftM b fr).2) else ((t.shiftM b fr).1,0):=by simp [T.shift,hc,hm']
    simp only [T.shiftM] at hsh
    refine ⟨fun he=>?_,fun he=>?_⟩
    ·refine W_dregE 2 [49006] ?_
     simp [SOp.args,e8,n6]
     refine realC_n ?_
     simp [he,hsh,tmn,ncells_mk,nk,T.zero]
    ·simp [n6,he,hsh,tmn,ncells_mk,nk,T.zero]
theorem fn49 (t:T) (b fr:Int):Fn Try.prog 6 [tm t,ib b,ib fr] (.tup [tm (t.shift b fr).1,ib (t.shift b fr).2]):=(fn49n t b fr).weakR (tmn_ib_weak _ _)
end Go.Abs

namespace Go.Abs
mutual
def T.mv:T → Int → Int → T
 | .mk k n ts,b,c=>if k=1 then .mk 1 (if n < c then n else n + b) [] else .mk k n (T.mvL k b c 0 ts)
def T.mvL (k b c:Int):Int → List T → List T
 | _,[]=>[]
 | i,t :: ts=>T.mv t b (c + bindsOf k i) :: T.mvL k b c (i + 1) ts
end
mutual
def T.ov:T → Int → Int → Bool
 | .mk k n ts,b,c=>if k=1 then decide (c ≤ n) && decide (65535 < n + b) else T.ovL k b c 0 ts
def T.ovL (k b c:Int):Int → List T → Bool
 | _,[]=>false
 | i,t :: ts=>T.ov t b (c + bindsOf k i) || T.ovL k b c (i + 1) ts
end
theorem binds01 (k i:Int):bindsOf k i=0 ∨ bindsOf k i=1:=by simp only [bindsOf];split <;> simp
theorem wrap_dp {k i d:Int} (h0:0 ≤ d) (h1:d ≤ 4611686018427387904):IntKind.wrap .i64 (d + bindsOf k i)=d + bindsOf k i:=by
 rcases binds01 k i with h | h <;> rw [h] <;> exact wrap_id (by omega) (by omega)
theorem check_iff (t:T):t.check=0 ↔ t.size ≤ 6000 ∧ t.depth ≤ 200 ∧ t.formed=true:=by
 simp only [T.check]
 by_cases h1:6000 < t.size
 ·simp [h1];intro h;omega
 ·by_cases h2:200 < t.depth
  ·simp [h1,h2];intro _ h;omega
  ·by_cases h3:t.formed=true
   ·simp [h1,h2,h3];omega
   ·simp [h1,h2,h3]
theorem count_6000 {t:T} (hc:t.count ≤ 1048576) (h:t.check=0):t.count ≤ 6000:=by
 have h2:=size_count t (by omega)
 have:=((check_iff t).1 h).1
 omega
theorem mapS_mv (fr b:Int) (hfr:0 ≤ fr) (hfr2:fr ≤ 65535) (hb:0 ≤ b) (hb2:b ≤ 65535) (t:T):t.formed=true → ∀ e d:Int,0 ≤ d → d + t.count ≤ 4611686018427387 →
  t.mapS (S:=Int) (fun _ n d=>shV fr b n d) (fun e n d=>shE fr b n d e) e d=(t.mv b (fr + d),if t.ov b (fr + d) then 6 else e):=by
 induction t using T.ind with
 | h k n ts ih=>
 intro hf e d h0 h1
 rw [T.formed,Bool.and_eq_true,formedL_all,List.all_eq_true] at hf
 by_cases hk:k=1
 ·subst hk
  have hh:=hf.1
  simp [badHead,kidsOf] at hh
  have hn:0 ≤ n ∧ n ≤ 65535:=by omega
  have w1:IntKind.wrap .i64 (fr + d)=fr + d:=wrap_id (by omega) (by omega)
  have w2:IntKind.wrap .i64 (n + b)=n + b:=wrap_id (by omega) (by omega)
  simp only [T.mapS,if_true,shV,shE,w1,w2,T.mv,T.ov]
  by_cases hlt:n < fr + d
  ·have hlt2:¬ (fr + d ≤ n):=by omega
   simp [hlt,hlt2]
  ·have hle:fr + d ≤ n:=by omega
   by_cases h3:65535 < n + b <;> simp [hlt,hle,h3]
 ·have key:∀ (ts:List T) (i e:Int),(∀ t,t ∈ ts → ∀ e d:Int,0 ≤ d → d + t.count ≤ 4611686018427387 → t.mapS (S:=Int) (fun _ n d=>shV fr b n d) (fun e n d=>shE fr b n d e) e d=(t.mv b (fr + d),if t.ov b (fr + d) then 6 else e)) →
    d + 1 + T.countL ts ≤ 4611686018427387 → T.mapSL (S:=Int) (fun _ n d=>shV fr b n d) (fun e n d=>shE fr b n d e) k d i ts e=(T.mvL k b (fr + d) i ts,if T.ovL k b (fr + d) i ts then 6 else e):=by
   intro ts
   induction ts with
   | nil=>intro i e _ _;simp [T.mapSL,T.mvL,T.ovL]
   | cons t ts ih2=>
    intro i e h hc
    simp only [T.countL] at hc
    have hw:=wrap_dp (k:=k) (i:=i) h0 (by omega)
    have hbd:=binds01 k i
    have ht:=h t (by simp) e (d + bindsOf k i) (by omega) (by omega)
    simp only [T.mapSL,hw,ht,T.mvL,T.ovL]
    rw [ih2 (i + 1) _ (fun u hu=>h u (by simp [hu])) (by omega)]
    have ea:fr + (d + bindsOf k i)=fr + d + bindsOf k i:=by omega
    rw [ea]
    by_cases q1:T.ov t b (fr + d + bindsOf k i)=true <;> by_cases q2:T.ovL k b (fr + d) (i + 1) ts=true <;> simp [q1,q2]
  simp only [T.count] at h1
  simp only [T.mapS,hk,if_false,T.mv,T.ov]
  rw [key ts 0 e (fun t ht=>ih t ht (hf.2 t ht)) (by omega)]
end Go.Abs

namespace Go.Abs
open Go.Proofs
def wk4:T:=.mk 5 0 [.mk 1 0 [],.mk 1 1 []]
def wk4s:T:=.mk 5 0 [.mk 1 2 [],.mk 1 3 []]
theorem wk4_shift:wk4.shift 2 0=(wk4s,0):=by rfl
theorem wk4_cnt:(if (0:Int) ≤ 0 ∧ (0:Int) ≤ 65535 then wk4.cnt 0 0 else 0)=2:=by rfl
theorem fn50:Fn Try.prog 14 [] (bb true):=by
 refine fn_of (base:=50000) ok50 rfl fun σ h0 hr=>?_
 clear h0 hr
 have c49:=fn49 wk4 2 0
 rw [wk4_shift] at c49
 have c52:=fn52 wk4 0
 rw [wk4_cnt] at c52
 have c45:=fn45 wk4s wk4s
 rw [eqb_self] at c45
 unfold c50
 simp
 refine ECall.fn (fn66 0) (by simp [ib]) (by simp) (by simp [tm]) fun _=>?_
 simp
 refine ECall.fn (fn66 1) (by simp [ib]) (by simp) (by simp [tm]) fun _=>?_
 simp [tm,room]
 refine ⟨⟨fun x hx=>cells_isD' _ x hx,fun x hx=>cells_isD' _ x hx⟩,?_⟩
 refine ECall.fn (fn25 5 [.mk 1 0 [],.mk 1 1 []]) (by simp [ib,tms]) (by simp) (by simp [tm]) fun _=>?_
 simp [tm]
 refine ECall.fn c49 (by simp [tm,wk4,ib]) (by simp) (by simp [tm,ib,AV.keys2]) fun _=>?_
 simp [tm,ib]
 refine W_dregA ?_
 simp
 refine GCallA.fn (fun _=>fn66 2) (by simp [ib]) (by simp) (by simp [tm]) ?_
 simp
 refine GCallA.fn (fun _=>fn66 3) (by simp [ib]) (by simp) (by simp [tm]) ?_
 simp [tm,room]
 refine ⟨⟨fun x hx=>cells_isD' _ x hx,fun x hx=>cells_isD' _ x hx⟩,?_⟩
 refine GCallA.fn (fun _=>fn25 5 [.mk 1 2 [],.mk 1 3 []]) (by simp [ib,tms]) (by simp) (by simp [tm]) ?_
 simp [tm]
 refine GCallA.fn (fun _=>c45) (by simp [tm,wk4s]) (by simp) rfl ?_
 simp [bb]
 refine GCallA.fn (fun _=>c52) (by simp [tm,wk4,ib]) (by simp) rfl ?_
 simp [ib]
 refine realC_n ?_
 simp [r50,bb]
end Go.Abs

namespace Go.Abs
def c27:SCode:=
 .seq (.reg [o_ 1 (.box 24 (.t 0)),o_ 2 (.mv (.k (.int .i64 0)))]) (.seq (.seq (.reg [o_ 3 (.ldn 24 3 (.t 1)),o_ 4 (.call (.f 16) [.t 3]),o_ 5 (.bin .gtr (.t 4) (.k (.int .i64 6000)))]) (.cond (.t 5) (.seq (.reg [o_ 2 (.mv (.k (.int .i64 4)))]) (.ret)) (.skip))) (.seq (.seq (.reg [o_ 6 (.ldn 24 3 (.t 1)),o_ 7 (.call (.f 15) [.t 6]),o_ 8 (.bin .gtr (.t 7) (.k (.int .i64 200)))]) (.cond (.t 8) (.seq (.reg [o_ 2 (.mv (.k (.int .i64 5)))]) (.ret)) (.skip))) (.seq (.seq (.reg [o_ 9 (.ldn 24 3 (.t 1)),o_ 10 (.call (.f 37) [.t 9]),o_ 11 (.not (.t 10))]) (.cond (.t 11) (.seq (.reg [o_ 2 (.mv (.k (.int .i64 1)))]) (.ret)) (.skip))) (.seq (.reg [o_ 2 (.mv (.k (.int .i64 0)))]) (.ret)))))
def r27:List RR:=[.t 2]
theorem ok27:okFn Go.Proofs.Try.prog 23 12 c27 r27 1=true:=by kernel_rfl
def c67b0:SCode:=
 .seq (.seq (.reg [m_ 32 3,o_ 33 (.fad 24 2 2 (.t 1)),o_ 34 (.ld1 22 (.t 33)),o_ 35 (.len 22 (.t 34)),o_ 36 (.bin .lss (.t 32) (.t 35))]) (.cond (.t 36) (.skip) (.exit 0))) (.seq (.block 1 (.seq (.reg [o_ 39 (.fad 24 2 2 (.t 1)),o_ 40 (.ld1 22 (.t 39)),m_ 41 3,o_ 42 (.iad 24 3 (.t 40) (.t 41)),o_ 43 (.ldn 24 3 (.t 42)),o_ 44 (.call (.f 37) [.t 43]),o_ 45 (.not (.t 44))]) (.cond (.t 45) (.seq (.reg [o_ 2 (.mv (.k (.bool false)))]) (.ret)) (.skip)))) (.reg [m_ 37 3,o_ 38 (.bin .add (.t 37) (.k (.int .i64 1))),m_ 3 38]))
def c67:SCode:=
 .seq (.reg [o_ 1 (.box 24 (.t 0)),o_ 2 (.mv (.k (.bool false)))]) (.seq (.seq (.dreg [0,1,3,0,8,24,63] [o_ 4 (.fad 24 2 2 (.t 1)),o_ 5 (.ld1 22 (.t 4)),o_ 6 (.len 22 (.t 5)),o_ 7 (.fad 24 0 0 (.t 1)),o_ 8 (.ld1 3 (.t 7)),o_ 9 (.call (.f 43) [.t 8]),o_ 10 (.bin .neq (.t 6) (.t 9))]) (.cond (.t 10) (.seq (.reg [o_ 2 (.mv (.k (.bool false)))]) (.ret)) (.skip))) (.seq (.seq (.reg [o_ 11 (.fad 24 2 2 (.t 1)),o_ 12 (.ld1 22 (.t 11)),o_ 13 (.len 22 (.t 12)),o_ 14 (.bin .eql (.t 13) (.k (.int .i64 0))),m_ 15 14,p_ 16 15 (.fad 24 1 1 (.t 1)),p_ 17 15 (.ld1 3 (.t 16)),p_ 18 15 (.call (.f 24) [.t 17,.k (.int .i64 0),.k (.int .i64 65535)]),p_ 19 15 (.not (.t 18)),o_ 20 (.pick (.t 15) (.t 19) (.k (.bool false))),m_ 21 20,q_ 22 21 (.fad 24 2 2 (.t 1)),q_ 23 21 (.ld1 22 (.t 22)),q_ 24 21 (.len 22 (.t 23)),q_ 25 21 (.bin .gtr (.t 24) (.k (.int .i64 0))),qm_ 26 21 25,
 p_ 27 26 (.fad 24 1 1 (.t 1)),p_ 28 26 (.ld1 3 (.t 27)),p_ 29 26 (.bin .neq (.t 28) (.k (.int .i64 0))),q_ 30 21 (.pick (.t 26) (.t 29) (.k (.bool false))),o_ 31 (.pick (.t 21) (.k (.bool true)) (.t 30))]) (.cond (.t 31) (.seq (.reg [o_ 2 (.mv (.k (.bool false)))]) (.ret)) (.skip))) (.seq (.seq (.reg [o_ 3 (.mv (.k (.int .i64 0)))]) (.block 0 (.loop c67b0))) (.seq (.reg [o_ 2 (.mv (.k (.bool true)))]) (.ret)))))
def r67:List RR:=[.t 2]
theorem ok67:okFn Go.Proofs.Try.prog 37 46 c67 r67 1=true:=by kernel_rfl
def c101:SCode:=
 .seq (.reg [o_ 6 (.mv (.k (.bool false)))]) (.seq (.reg [m_ 7 0,m_ 8 1,o_ 9 (.bin .geq (.t 7) (.t 8)),m_ 10 9,pm_ 11 10 0,pm_ 12 10 2,p_ 13 10 (.bin .leq (.t 11) (.t 12)),o_ 14 (.pick (.t 10) (.t 13) (.k (.bool false))),m_ 6 14]) (.ret))
def r101:List RR:=[.t 6]
theorem ok101:okFn Go.Proofs.Try.prog 24 15 c101 r101 3=true:=by kernel_rfl
def c114:SCode:=
 .seq (.reg [o_ 2 (.mv (.k (.int .i64 0)))]) (.seq (.seq (.reg [m_ 3 0]) (.block 0 (.seq (.seq (.reg [o_ 5 (.bin .eql (.t 3) (.k (.int .i64 1))),m_ 4 5]) (.cond (.t 4) (.skip) (.seq (.reg [o_ 6 (.bin .eql (.t 3) (.k (.int .i64 2))),m_ 4 6]) (.cond (.t 4) (.skip) (.reg [o_ 7 (.bin .eql (.t 3) (.k (.int .i64 3))),m_ 4 7]))))) (.cond (.t 4) (.seq (.reg [o_ 2 (.mv (.k (.int .i64 0)))]) (.ret)) (.seq (.seq (.reg [o_ 9 (.bin .eql (.t 3) (.k (.int .i64 9))),m_ 8 9]) (.cond (.t 8) (.skip) (.reg [o_ 10 (.bin .eql (.t 3) (.k (.int .i64 10))),m_ 8 10]))) (.cond (.t 8) (.seq (.reg [o_ 2 (.mv (.k (.int .i64 1)))]) (.ret)) (.seq (.seq (.reg [o_ 12 (.bin .eql (.t 3) (.k (.int .i64 4))),m_ 11 12]) (.cond (.t 11) (.skip) (.seq (.reg [o_ 13 (.bin .eql (.t 3) (.k (.int .i64 5))),m_ 11 13]) (.cond (.t 11) (.skip) (.seq (.reg [o_ 14 (.bin .eql (.t 3) (.k (.int .i64 6))),m_ 11 14]) (.cond (.t 11) (.skip)
 (.seq (.reg [o_ 15 (.bin .eql (.t 3) (.k (.int .i64 7))),m_ 11 15]) (.cond (.t 11) (.skip) (.reg [o_ 16 (.bin .eql (.t 3) (.k (.int .i64 12))),m_ 11 16]))))))))) (.cond (.t 11) (.seq (.reg [o_ 2 (.mv (.k (.int .i64 2)))]) (.ret)) (.seq (.seq (.reg [o_ 18 (.bin .eql (.t 3) (.k (.int .i64 8))),m_ 17 18]) (.cond (.t 17) (.skip) (.seq (.reg [o_ 19 (.bin .eql (.t 3) (.k (.int .i64 11))),m_ 17 19]) (.cond (.t 17) (.skip) (.reg [o_ 20 (.bin .eql (.t 3) (.k (.int .i64 13))),m_ 17 20]))))) (.cond (.t 17) (.seq (.reg [o_ 2 (.mv (.k (.int .i64 3)))]) (.ret)) (.skip))))))))))) (.seq (.reg [o_ 2 (.mv (.k (.int .i64 (-1))))]) (.ret)))
def r114:List RR:=[.t 2]
theorem ok114:okFn Go.Proofs.Try.prog 43 21 c114 r114 1=true:=by kernel_rfl
end Go.Abs

namespace Go.Abs
open Go.Proofs
set_option maxHeartbeats 4000000 in
theorem fn114 (k:Int):Fn Try.prog 43 [ib k] (ib (kidsOf k)):=by
 refine fn_of (base:=114000) ok114 rfl fun σ h0 hr=>?_
 have s0:=h0 0
 rw [slots0] at s0
 simp only [ib] at s0
 clear h0 hr
 unfold c114
 by_cases h1:k=1
 ·subst h1;simp [s0,r114,ib,kidsOf]
 by_cases h2:k=2
 ·subst h2;simp [s0,r114,ib,kidsOf]
 by_cases h3:k=3
 ·subst h3;simp [s0,r114,ib,kidsOf]
 by_cases h9:k=9
 ·subst h9;simp [s0,r114,ib,kidsOf]
 by_cases h10:k=10
 ·subst h10;simp [s0,r114,ib,kidsOf]
 by_cases h8:k=8
 ·subst h8;simp [s0,r114,ib,kidsOf]
 by_cases h11:k=11
 ·subst h11;simp [s0,r114,ib,kidsOf]
 by_cases h13:k=13
 ·subst h13;simp [s0,r114,ib,kidsOf]
 by_cases h4:k=4
 ·subst h4;simp [s0,r114,ib,kidsOf]
 by_cases h5:k=5
 ·subst h5;simp [s0,r114,ib,kidsOf]
 by_cases h6:k=6
 ·subst h6;simp [s0,r114,ib,kidsOf]
 by_cases h7:k=7
 ·subst h7;simp [s0,r114,ib,kidsOf]
 by_cases h12:k=12
 ·subst h12;simp [s0,r114,ib,kidsOf]
 have hk:kidsOf k=-1:=by
  have:¬ (1 ≤ k ∧ k ≤ 13):=by omega
  simp [kidsOf,h1,h2,h3,h9,h10,h8,h11,h13,this]
 simp [s0,h1,h2,h3,h9,h10,h8,h11,h13,h4,h5,h6,h7,h12,r114,ib,hk]
theorem fn101 (x a b:Int):Fn Try.prog 24 [ib x,ib a,ib b] (bb (decide (a ≤ x) && decide (x ≤ b))):=by
 refine fn_of (base:=101000) ok101 rfl fun σ h0 hr=>?_
 have s0:=h0 0
 have s1:=h0 1
 have s2:=h0 2
 rw [slots0] at s0
 rw [slots1] at s1
 rw [slots2] at s2
 simp only [ib] at s0 s1 s2
 clear h0 hr
 unfold c101
 simp [s0,s1,s2,r101,bb]
theorem bad_iff {k n:Int} {len:Nat}:badHead k n len=true ↔ ¬ ((len:Int)=kidsOf k ∧ 0 ≤ n ∧ n ≤ 65535 ∧ (0 < len → n=0)):=by
 simp only [badHead,Bool.or_eq_true,Bool.and_eq_true,decide_eq_true_eq,Bool.not_eq_true',decide_eq_false_iff_not]
 omega
theorem fn67 (t:T):Fn Try.prog 37 [tm t] (bb t.formed):=by
 induction t using T.ind with
 | h k n ts ih=>
 refine fn_of (base:=67000) ok67 rfl fun σ h0 hr=>?_
 have s0:=h0 0
 rw [slots0] at s0
 have hlen:=real_kids (hr (tm (.mk k n ts)) (by simp))
 rw [kids_mk] at hlen
 simp only [tm,cells_mk] at s0
 clear h0 hr
 unfold c67
 by_cases hk:(ts.length:Int)=kidsOf k
 case neg=>
  have hb:badHead k n ts.length=true:=bad_iff.2 fun h=>hk h.1
  simp [s0]
  refine W_dregA ?_
  simp
  refine CallA.fn (fn114 k) (by simp [ib]) (by simp) rfl ?_
  simp [ib]
  refine realC_n ?_
  simp [hk,r67,bb,T.formed,hb]
 case pos=>
  have c114:=fn114 k
  rw [← hk] at c114
  simp [s0]
  refine W_dregA ?_
  simp
  refine CallA.fn c114 (by simp [ib]) (by simp) rfl ?_
  simp [ib]
  refine realC_n ?_
  simp
  refine GCall.fn (fun _=>fn101 n 0 65535) (by simp [ib]) (by simp) rfl fun _=>?_
  simp [bb,r67]
  constructor
  ·intro hb
   have hb':badHead k n ts.length=true:=bad_iff.2 fun h=>by
    rcases hb with ⟨h1,h2⟩ | ⟨h1,h2⟩
    ·have:=h.2.1;have:=h.2.2.1;omega
    ·exact h2 (h.2.2.2 h1)
   simp [T.formed,hb']
  ·intro hb1 hb2
   have hb':badHead k n ts.length=false:=by
    cases h:badHead k n ts.length with
    | false=>rfl
    | true=>
     exfalso
     refine bad_iff.1 h ⟨hk,?_⟩
     by_cases h0:ts=[]
     ·have:=hb1 h0
      subst h0
      exact ⟨by omega,by omega,fun h=>by simp at h⟩
     ·have:=hb2 (List.length_pos_iff.2 h0)
      exact ⟨by omega,by omega,fun _=>this⟩
   refine W_loop (fun m σ=>∃ i:Nat,i + m=ts.length ∧ T.formedL (ts.drop i)=T.formedL ts ∧ σ.sl 1=.c (.ref 67001 (σ.tg 67001) 0) ∧ σ.ob 67001=some (.box 24 (T.mk k n ts).cells) ∧ σ.sl 3=.c (.v (.int .i64 i))) ts.length ?_ ?_
   ·exact ⟨0,by simp [cells_mk]⟩
   ·rintro m σ ⟨i,hm,hp,q1,qo,q3⟩
    unfold c67b0
    simp only [cells_mk] at qo
    by_cases hi:i < ts.length
    ·obtain ⟨t,ht⟩:=at_of hi
     obtain ⟨_,ht'⟩:=getE ht
     have w1:=wrap_succ (i:=i) (by omega)
     rw [drop_at ht,T.formedL] at hp
     simp [q1,qo,q3,hi,ht']
     refine ECall.fn (ih t (List.mem_of_getElem? ht)) (by simp [tm]) (by simp) rfl fun _=>?_
     simp [bb]
     constructor
     ·intro hd
      simp [T.formed,hb',← hp,hd]
     ·intro hd
      rw [hd,Bool.true_and] at hp
      simp [q3]
      refine ⟨m - 1,by omega,i + 1,by omega,hp,?_⟩
      simp [q1,qo,cells_mk,w1]
    ·simp [q1,qo,q3,hi,T.formed,hb']
     rw [← hp,List.drop_eq_nil_of_le (by omega),T.formedL]
theorem fn27 (t:T):Fn Try.prog 23 [tm t] (ib t.check):=by
 refine fn_of (base:=27000) ok27 rfl fun σ h0 hr=>?_
 have s0:=h0 0
 rw [slots0] at s0
 simp only [tm] at s0
 clear h0 hr
 unfold c27
 simp [s0]
 refine ECall.fn (fn28 t) (by simp [tm]) (by simp) rfl fun _=>?_
 simp [ib]
 refine ⟨fun h1=>by simp [r27,h1,T.check],fun h1=>?_⟩
 simp [show ¬ 6000 < t.size by omega]
 refine ECall.fn (fn29 t) (by simp [tm]) (by simp) rfl fun _=>?_
 simp [ib]
 refine ⟨fun h2=>by simp [r27,h2,T.check,show ¬ 6000 < t.size by omega],fun h2=>?_⟩
 simp [show ¬ 200 < t.depth by omega]
 refine ECall.fn (fn67 t) (by simp [tm]) (by simp) rfl fun _=>?_
 simp [bb]
 refine ⟨fun h3=>by simp [r27,h3,T.check,show ¬ 6000 < t.size by omega,show ¬ 200 < t.depth by omega],fun h3=>by simp [r27,h3,T.check,show ¬ 6000 < t.size by omega,show ¬ 200 < t.depth by omega]⟩
end Go.Abs

namespace Go.Abs
open Go.Proofs
end Go.Abs

namespace Go.Abs
def c51:SCode:=
 .seq (.reg [o_ 4 (.mv (.k (.int .i64 0)))]) (.seq (.seq (.reg [m_ 5 1,o_ 6 (.bin .eql (.t 5) (.k (.int .i64 1))),m_ 7 6,pm_ 8 7 0,p_ 9 7 (.bin .eql (.t 8) (.k (.int .i64 4))),pm_ 10 7 9,qm_ 11 10 0,q_ 12 10 (.bin .eql (.t 11) (.k (.int .i64 5))),p_ 13 7 (.pick (.t 10) (.k (.bool true)) (.t 12)),pm_ 14 7 13,qm_ 15 14 0,q_ 16 14 (.bin .eql (.t 15) (.k (.int .i64 7))),p_ 17 7 (.pick (.t 14) (.k (.bool true)) (.t 16)),o_ 18 (.pick (.t 7) (.t 17) (.k (.bool false)))]) (.cond (.t 18) (.seq (.reg [o_ 4 (.mv (.k (.int .i64 1)))]) (.ret)) (.skip))) (.seq (.reg [o_ 4 (.mv (.k (.int .i64 0)))]) (.ret)))
def r51:List RR:=[.t 4]
theorem ok51:okFn Go.Proofs.Try.prog 38 19 c51 r51 2=true:=by kernel_rfl
def c54:SCode:=
 .seq (.reg [o_ 2 (.box 24 (.t 0)),o_ 3 (.box 3 (.t 1)),o_ 4 (.alloc 24 [.v (.int .i64 0),.v (.int .i64 0),.cap 3 40 []]),o_ 5 (.mv (.k (.bool false)))]) (.seq (.seq (.reg [o_ 6 (.ldn 24 3 (.t 2)),o_ 7 (.call (.f 18) [.t 6]),o_ 8 (.bin .neq (.t 7) (.k (.int .i64 0))),m_ 9 8,q_ 10 9 (.ld1 3 (.t 3)),q_ 11 9 (.call (.f 19) [.t 10]),q_ 12 9 (.not (.t 11)),o_ 13 (.pick (.t 9) (.k (.bool true)) (.t 12)),m_ 14 13,q_ 15 14 (.ldn 24 3 (.t 2)),q_ 16 14 (.ld1 3 (.t 3)),q_ 17 14 (.call (.f 11) [.t 15,.t 16]),q_ 18 14 (.bin .gtr (.t 17) (.k (.int .i64 0))),o_ 19 (.pick (.t 14) (.k (.bool true)) (.t 18))]) (.cond (.t 19) (.seq (.reg [o_ 20 (.build 24 [.v (.int .i64 0),.v (.int .i64 0),.cap 3 40 []] []),n_ (.stn 24 3 (.t 4) (.t 20)),o_ 5 (.mv (.k (.bool false)))]) (.ret)) (.skip))) (.seq (.reg [o_ 21 (.ldn 24 3 (.t 2)),o_ 22 (.mkfn 26 [] [.t 3]),
 o_ 23 (.call (.f 20) [.t 21,.k (.int .i64 0),.t 22]),n_ (.stn 24 3 (.t 4) (.t 23)),o_ 5 (.mv (.k (.bool true)))]) (.ret)))
def r54:List RR:=[.cn 4 3,.t 5]
theorem ok54:okFn Go.Proofs.Try.prog 8 24 c54 r54 2=true:=by kernel_rfl
def c103:SCode:=
 .seq (.reg [o_ 5 (.alloc 24 [.v (.int .i64 0),.v (.int .i64 0),.cap 3 40 []])]) (.seq (.seq (.reg [m_ 6 0,o_ 7 (.ld1 3 (.t 2)),m_ 8 1,o_ 9 (.bin .add (.t 7) (.t 8)),o_ 10 (.bin .gtr (.t 6) (.t 9))]) (.cond (.t 10) (.reg [m_ 11 0,o_ 12 (.bin .sub (.t 11) (.k (.int .i64 1))),m_ 0 12]) (.skip))) (.seq (.reg [m_ 13 0,o_ 14 (.call (.f 22) [.t 13]),n_ (.stn 24 3 (.t 5) (.t 14))]) (.ret)))
def r103:List RR:=[.cn 5 3]
theorem ok103:okFn Go.Proofs.Try.prog 26 15 c103 r103 3=true:=by kernel_rfl
end Go.Abs

namespace Go.Abs
open Go.Proofs
theorem may_ok {x:Int} (h0:0 ≤ x) (h1:x ≤ 65535):mayB x=true:=by simp [mayB,h0,h1]
theorem shift_eq {t:T} (hc:t.count ≤ 1048576) {b fr:Int} (hb:0 ≤ b) (hb2:b ≤ 65535) (hfr:0 ≤ fr) (hfr2:fr ≤ 65535) :
  t.shift b fr=if t.check=0 then (if t.ov b fr then (.zero,6) else (t.mv b fr,0)) else (.zero,t.check):=by
 by_cases h:t.check=0
 ·have hm:=mapS_mv fr b hfr hfr2 hb hb2 t ((check_iff t).1 h).2.2 0 0 (by omega) (by omega)
  simp only [Int.add_zero] at hm
  simp only [T.shift,T.shiftM,h,may_ok hb hb2,may_ok hfr hfr2,hm]
  by_cases ho:t.ov b fr=true <;> simp [ho]
 ·simp [T.shift,h]
end Go.Abs

namespace Go.Abs
open Go.Proofs
def lwO (n:Int) (tn:Nat):Objs:=[(54003,tn,.box 3 [.v (.int .i64 n)])]
theorem lwO_get {n:Int} {tn k t:Nat} {q:Obj} (h:(lwO n tn).lookup k=some (t,q)):k=54003 ∧ t=tn ∧ q=.box 3 [.v (.int .i64 n)]:=by
 simp only [lwO,List.lookup_cons,List.lookup_nil] at h
 split at h
 ·rename_i hk;cases h;exact ⟨by simpa using hk,rfl,rfl⟩
 ·cases h
theorem lwO_kin (n n':Int) (tn:Nat):Kin (lwO n tn) (lwO n' tn) where
 there k t q h:=by obtain ⟨rfl,rfl,rfl⟩:=lwO_get h;exact ⟨_,rfl⟩
 back k t q h:=by obtain ⟨rfl,rfl,rfl⟩:=lwO_get h;exact ⟨_,rfl⟩
 data k t q h:=by obtain ⟨rfl,rfl,rfl⟩:=lwO_get h;rfl
def lwV (m v d:Int):T:=.mk 1 (if IntKind.wrap .i64 (m + d) < v then IntKind.wrap .i64 (v - 1) else v) []
theorem sp103 (m v d:Int) (tn:Nat):Spec Try.prog 26 [ib v,ib d,.c (.ref 54003 tn 0)] (lwO m tn) (tm (lwV m v d)) (lwO m tn):=by
 refine spec_of (base:=103000) ok103 rfl fun T hT hr=>?_
 have t1:=hT 54003 tn _ rfl
 clear hT hr
 generalize hσ:(⟨slotsOf [ib v,ib d,.c (.ref 54003 tn 0)],obsOf (lwO m tn),T⟩:St)=σ
 have s0:σ.sl 0=.c (.v (.int .i64 v)):=by rw [← hσ];rfl
 have s1:σ.sl 1=.c (.v (.int .i64 d)):=by rw [← hσ];rfl
 have s2:σ.sl 2=.c (.ref 54003 tn 0):=by rw [← hσ];rfl
 have o1:σ.ob 54003=some (.box 3 [.v (.int .i64 m)]):=by rw [← hσ];rfl
 have g1:σ.tg 54003=tn:=by rw [← hσ];exact t1
 clear hσ
 have fin:∀ σ':St,σ'.ob 54003=some (.box 3 [.v (.int .i64 m)]) → σ'.tg 54003=tn →
   (∀ r,r ∈ r103 → rrGok σ' r) → resOf σ' r103=some (tm (lwV m v d)) → EndOK (lwO m tn) r103 (tm (lwV m v d)) (lwO m tn) σ':=fun σ' a1 b1 hg hres=>by
  refine ⟨hg,hres,fun k t q h=>?_⟩
  obtain ⟨rfl,rfl,rfl⟩:=lwO_get h
  exact ⟨a1,b1,_,rfl⟩
 unfold c103
 by_cases h1:IntKind.wrap .i64 (m + d) < v
 ·simp [s0,s1,s2,o1,g1,h1]
  refine ECall.fn (fn76 (IntKind.wrap .i64 (v - 1))) (by simp [ib]) (by simp) (by simp [tm]) fun _=>?_
  simp [tm]
  refine fin _ (by simp [o1]) (by simp [g1]) (by simp [r103]) (by simp [r103,tm,lwV,h1])
 ·simp [s0,s1,s2,o1,g1,h1]
  refine ECall.fn (fn76 v) (by simp [ib]) (by simp) (by simp [tm]) fun _=>?_
  simp [tm]
  refine fin _ (by simp [o1]) (by simp [g1]) (by simp [r103]) (by simp [r103,tm,lwV,h1])
def T.lowM (t:T) (m:Int):T:=(t.mapS (S:=Unit) (fun _ v d=>lwV m v d) (fun _ _ _=>()) () 0).1
def T.lower (t:T) (m:Int):T × Bool:=if t.check ≠ 0 then (.zero,false) else if mayB m=false then (.zero,false) else if 0 < t.cnt m 0 then (.zero,false) else (t.lowM m,true)
theorem spLow (m:Int) (tn:Nat) (t:T) (d:Int):Spec Try.prog 20 [tm t,ib d,.c (.clo 26 [] [(54003,tn)])] (lwO m tn) (tmn (t.mapS (S:=Unit) (fun _ v d=>lwV m v d) (fun _ _ _=>()) () d).1) (lwO m tn):=
 sp98 (O:=fun _:Unit=>lwO m tn) (fun _ n d=>by rw [show tmn (lwV m n d)=tm (lwV m n d) from tmn_leaf _ _];exact sp103 m n d tn) (fun _ _=>lwO_kin m m tn) (fun _ k h1 h2=>by
  cases h:(lwO m tn).lookup k with
  | none=>rfl
  | some x=>
   obtain ⟨t,q⟩:=x
   obtain ⟨rfl,_⟩:=lwO_get h
   omega) t () d
theorem fn54n (t:T) (m:Int):Fn Try.prog 8 [tm t,ib m] (.tup [tmn (t.lower m).1,bb (t.lower m).2]):=by
 refine fn_of (base:=54000) ok54 rfl fun σ h0 hr=>?_
 have s0:=h0 0
 have s1:=h0 1
 rw [slots0] at s0
 rw [slots1] at s1
 simp only [tm,ib] at s0 s1
 clear h0 hr
 unfold c54
 simp [s0,s1]
 refine ECall.fn (fn22 t) (by simp [tm]) (by simp) rfl fun _=>?_
 simp [ib]
 refine GCall.fn (fun _=>fn97 m) (by simp [ib]) (by simp) rfl fun _=>?_
 simp [bb]
 refine GCall.fn (fun _=>fn52 t m) (by simp [ib,tm]) (by simp) rfl fun _=>?_
 simp [ib,r54]
 have hif:(if 0 ≤ m ∧ m ≤ 65535 then t.cnt m 0 else 0)=if mayB m=true then t.cnt m 0 else 0:=by simp [mayB]
 rw [hif]
 have hmb:mayB m=(decide (0 ≤ m) && decide (m ≤ 65535)):=rfl
 refine ⟨fun he=>?_,fun e1=>?_⟩
 ·have hl:t.lower m=(.zero,false):=by
   by_cases h1:t.check=0
   ·by_cases h2:mayB m=true
    ·have h3:0 < t.cnt m 0:=by
      simp only [h2,if_true] at he
      simp [mayB] at h2
      omega
     simp [T.lower,h1,h2,h3]
    ·simp [T.lower,h1,h2]
   ·simp [T.lower,h1]
  simp [hl,tmn,bb,ncells_mk,nk,T.zero]
 ·intro h0 h1 h2
  have hm:mayB m=true:=by simp [mayB,h0,h1]
  simp only [hm,if_true] at h2
  have h3:¬ 0 < t.cnt m 0:=by omega
  refine ECall.obj (rs:=[]) (args:=[tm t,ib 0,.c (.clo 26 [] [(54003,σ.tg 54003 + 1)])])
   (by simpa [refs] using spLow m (σ.tg 54003 + 1) t 0) (by simp [tm,ib]) (by simp) (by simp [tmn]) ?_ (lwO_kin _ _ _) fun _=>?_
  ·intro k t' q h
   obtain ⟨rfl,rfl,rfl⟩:=lwO_get h
   simp
  ·have n4:∀ (τ:St),(τ.puts (lwO m (σ.tg 54003 + 1))).ob 54004=τ.ob 54004:=fun τ=>puts_none rfl
   simp [tmn,n4,T.lower,e1,hm,h3,T.lowM]
mutual
def T.occ:T → Int → Nat
 | .mk k n ts,v=>(if k=1 ∧ n=v then 1 else 0) + T.occL k v 0 ts
def T.occL (k v:Int):Int → List T → Nat
 | _,[]=>0
 | i,t :: ts=>T.occ t (v + bindsOf k i) + T.occL k v (i + 1) ts
end
theorem occ_le (t:T):∀ v,t.occ v ≤ t.count:=by
 induction t using T.ind with
 | h k n ts ih=>
 intro v
 have key:∀ (ts:List T) (i:Int),(∀ t,t ∈ ts → ∀ v,t.occ v ≤ t.count) → T.occL k v i ts ≤ T.countL ts:=by
  intro ts
  induction ts with
  | nil=>intro i _;simp [T.occL,T.countL]
  | cons t ts ih2=>
   intro i h
   have h1:=h t (by simp) (v + bindsOf k i)
   have h2:=ih2 (i + 1) fun u hu=>h u (by simp [hu])
   simp only [T.occL,T.countL];omega
 have:=key ts 0 ih
 simp only [T.occ,T.count]
 split <;> omega
theorem cnt_occ (t:T):∀ b d:Int,0 ≤ b → 0 ≤ d → b + d + t.count ≤ 4611686018427387 → t.cnt b d=(t.occ (b + d):Nat):=by
 induction t using T.ind with
 | h k n ts ih=>
 intro b d hb hd hc
 simp only [T.count] at hc
 have w:IntKind.wrap .i64 (b + d)=b + d:=wrap_id (by omega) (by omega)
 have key:∀ (ts:List T) (i a:Int),(∀ t,t ∈ ts → ∀ b d:Int,0 ≤ b → 0 ≤ d → b + d + t.count ≤ 4611686018427387 → t.cnt b d=(t.occ (b + d):Nat)) → 0 ≤ a → a + T.countL ts ≤ 4611686018427388 → b + d + 1 + T.countL ts ≤ 4611686018427387 →
   T.cntL k b d i a ts=a + (T.occL k (b + d) i ts:Nat):=by
  intro ts
  induction ts with
  | nil=>intro i a _ _ _ _;simp [T.cntL,T.occL]
  | cons t ts ih2=>
   intro i a h ha hc2 hc
   simp only [T.countL] at hc hc2
   have hbd:=binds01 k i
   have h1:=h t (by simp) b (d + bindsOf k i) hb (by omega) (by omega)
   have h2:=occ_le t (b + (d + bindsOf k i))
   have w1:IntKind.wrap .i64 (a + (t.occ (b + (d + bindsOf k i)):Nat))=a + (t.occ (b + (d + bindsOf k i)):Nat):=wrap_id (by omega) (by omega)
   simp only [T.cntL,wrap_dp (k:=k) (i:=i) hd (by omega),h1,w1]
   rw [ih2 (i + 1) _ (fun u hu=>h u (by simp [hu])) (by omega) (by omega) (by omega)]
   have e:b + (d + bindsOf k i)=b + d + bindsOf k i:=by omega
   rw [e]
   simp only [T.occL];omega
 simp only [T.cnt,T.occ,w]
 by_cases h:k=1 ∧ n=b + d
 ·rw [if_pos h,if_pos h,key ts 0 1 ih (by omega) (by omega) (by omega)];omega
 ·rw [if_neg h,if_neg h,key ts 0 0 ih (by omega) (by omega) (by omega)];omega
mutual
def T.lw:T → Int → T
 | .mk k n ts,c=>if k=1 then .mk 1 (if c < n then n - 1 else n) [] else .mk k n (T.lwL k c 0 ts)
def T.lwL (k c:Int):Int → List T → List T
 | _,[]=>[]
 | i,t :: ts=>T.lw t (c + bindsOf k i) :: T.lwL k c (i + 1) ts
end
theorem mapS_lw (m:Int) (hm:0 ≤ m) (hm2:m ≤ 65535) (t:T):t.formed=true → ∀ d:Int,0 ≤ d → d + t.count ≤ 4611686018427387 →
  (t.mapS (S:=Unit) (fun _ v d=>lwV m v d) (fun _ _ _=>()) () d).1=t.lw (m + d):=by
 induction t using T.ind with
 | h k n ts ih=>
 intro hf d h0 h1
 rw [T.formed,Bool.and_eq_true,formedL_all,List.all_eq_true] at hf
 by_cases hk:k=1
 ·subst hk
  have hh:=hf.1
  simp [badHead,kidsOf] at hh
  have hn:0 ≤ n ∧ n ≤ 65535:=by omega
  have w1:IntKind.wrap .i64 (m + d)=m + d:=wrap_id (by omega) (by omega)
  have w2:IntKind.wrap .i64 (n - 1)=n - 1:=wrap_id (by omega) (by omega)
  simp only [T.mapS,if_true,lwV,w1,w2,T.lw]
 ·have key:∀ (ts:List T) (i:Int),(∀ t,t ∈ ts → ∀ d:Int,0 ≤ d → d + t.count ≤ 4611686018427387 → (t.mapS (S:=Unit) (fun _ v d=>lwV m v d) (fun _ _ _=>()) () d).1=t.lw (m + d)) →
    d + 1 + T.countL ts ≤ 4611686018427387 → (T.mapSL (S:=Unit) (fun _ v d=>lwV m v d) (fun _ _ _=>()) k d i ts ()).1=T.lwL k (m + d) i ts:=by
   intro ts
   induction ts with
   | nil=>intro i _ _;simp [T.mapSL,T.lwL]
   | cons t ts ih2=>
    intro i h hc
    simp only [T.countL] at hc
    have hbd:=binds01 k i
    have ht:=h t (by simp) (d + bindsOf k i) (by omega) (by omega)
    simp only [T.mapSL,wrap_dp (k:=k) (i:=i) h0 (by omega),ht,T.lwL]
    rw [ih2 (i + 1) (fun u hu=>h u (by simp [hu])) (by omega)]
    have e:m + (d + bindsOf k i)=m + d + bindsOf k i:=by omega
    rw [e]
  simp only [T.count] at h1
  simp only [T.mapS,hk,if_false,T.lw]
  rw [key ts 0 (fun t ht=>ih t ht (hf.2 t ht)) (by omega)]
end Go.Abs

namespace Go.Abs
def c53:SCode:=
 .seq (.reg [o_ 3 (.box 24 (.t 0)),o_ 6 (.alloc 24 [.v (.int .i64 0),.v (.int .i64 0),.cap 3 40 []]),o_ 7 (.mv (.k (.int .i64 0)))]) (.seq (.seq (.reg [o_ 11 (.ldn 24 3 (.t 3)),o_ 12 (.call (.f 23) [.t 11]),m_ 8 12]) (.seq (.reg [m_ 13 8,o_ 14 (.bin .neq (.t 13) (.k (.int .i64 0)))]) (.cond (.t 14) (.seq (.reg [o_ 15 (.build 24 [.v (.int .i64 0),.v (.int .i64 0),.cap 3 40 []] []),m_ 16 8,n_ (.stn 24 3 (.t 6) (.t 15)),m_ 7 16]) (.ret)) (.skip)))) (.seq (.seq (.reg [m_ 17 1,o_ 18 (.call (.f 24) [.t 17,.k (.int .i64 0),.k (.int .i64 65535)]),o_ 19 (.not (.t 18)),m_ 20 19,qm_ 21 20 2,q_ 22 20 (.call (.f 24) [.t 21,.k (.int .i64 0),.k (.int .i64 65535)]),q_ 23 20 (.not (.t 22)),o_ 24 (.pick (.t 20) (.k (.bool true)) (.t 23))]) (.cond (.t 24) (.seq (.reg [o_ 25 (.build 24 [.v (.int .i64 0),.v (.int .i64 0),.cap 3 40 []] []),n_ (.stn 24 3 (.t 6) (.t 25)),o_ 7 (.mv (.k (.int .i64 1)))])
 (.ret)) (.skip))) (.seq (.reg [o_ 27 (.ldn 24 3 (.t 3)),m_ 28 1,m_ 29 2,o_ 30 (.call (.f 25) [.t 27,.t 28,.t 29]),m_ 26 30,o_ 31 (.ext (.t 26) 0),o_ 32 (.ext (.t 26) 1),o_ 9 (.alloc 24 [.v (.int .i64 0),.v (.int .i64 0),.cap 3 40 []]),n_ (.stn 24 3 (.t 9) (.t 31)),m_ 10 32]) (.seq (.seq (.reg [m_ 33 10]) (.cond (.t 33) (.seq (.reg [o_ 34 (.build 24 [.v (.int .i64 0),.v (.int .i64 0),.cap 3 40 []] []),n_ (.stn 24 3 (.t 6) (.t 34)),o_ 7 (.mv (.k (.int .i64 6)))]) (.ret)) (.skip))) (.seq (.reg [o_ 35 (.ldn 24 3 (.t 9)),n_ (.stn 24 3 (.t 6) (.t 35)),o_ 7 (.mv (.k (.int .i64 0)))]) (.ret))))))
def r53:List RR:=[.cn 6 3,.t 7]
theorem ok53:okFn Go.Proofs.Try.prog 7 36 c53 r53 3=true:=by kernel_rfl
def w102_0:List (List Nat):=[[],[],[],[],[],[],[],[],[],[],[],[],[],[],[],[],[102011],[102011],[]]
def f102_0:List (List Nat):=[[102011],[102011],[102011],[102011],[102011],[102011],[102011],[102011],[102011],[102011],[102011],[102011],[102011],[102011],[102011],[102011],[],[],[]]
def c102b0:SCode:=
 .seq (.seq (.reg [m_ 35 10,o_ 36 (.fad 24 2 2 (.t 3)),o_ 37 (.ld1 22 (.t 36)),o_ 38 (.len 22 (.t 37)),o_ 39 (.bin .lss (.t 35) (.t 38))]) (.cond (.t 39) (.skip) (.exit 0))) (.seq (.block 1 (.seq (.dreg [0,1,0,7,15,0,0,0,128,0,896,1984,4095,8191,16383,16383,0,98303,262143] [o_ 43 (.fad 24 2 2 (.t 3)),o_ 44 (.ld1 22 (.t 43)),m_ 45 10,o_ 46 (.iad 24 3 (.t 44) (.t 45)),o_ 47 (.ldn 24 3 (.t 46)),m_ 48 1,m_ 49 2,o_ 50 (.fad 24 0 0 (.t 3)),o_ 51 (.ld1 3 (.t 50)),m_ 52 10,o_ 53 (.call (.f 38) [.t 51,.t 52]),o_ 54 (.bin .add (.t 49) (.t 53)),o_ 55 (.call (.f 25) [.t 47,.t 48,.t 54]),m_ 42 55,o_ 56 (.ext (.t 42) 0),o_ 57 (.ext (.t 42) 1),o_ 11 (.alloc 24 [.v (.int .i64 0),.v (.int .i64 0),.cap 3 40 []]),n_ (.stn 24 3 (.t 11) (.t 56)),m_ 12 57]) (.reg [o_ 58 (.fad 24 2 2 (.t 8)),o_ 59 (.ld1 22 (.t 58)),o_ 60 (.ldn 24 3 (.t 11)),o_ 61 (.lit 24 3 40 [.t 60]),
 o_ 62 (.app 24 3 40 (.t 59) (.t 61)),m_ 63 9,m_ 64 63,qm_ 65 64 12,o_ 66 (.pick (.t 64) (.k (.bool true)) (.t 65)),o_ 67 (.fad 24 2 2 (.t 8)),n_ (.st1 22 (.t 67) (.t 62)),m_ 9 66]))) (.reg [m_ 40 10,o_ 41 (.bin .add (.t 40) (.k (.int .i64 1))),m_ 10 41]))
def c102:SCode:=
 .seq (.reg [o_ 3 (.box 24 (.t 0)),o_ 6 (.alloc 24 [.v (.int .i64 0),.v (.int .i64 0),.cap 3 40 []]),o_ 7 (.mv (.k (.bool false)))]) (.seq (.reg [o_ 13 (.fad 24 0 0 (.t 3)),o_ 14 (.ld1 3 (.t 13)),o_ 15 (.fad 24 1 1 (.t 3)),o_ 16 (.ld1 3 (.t 15)),o_ 17 (.build 24 [.v (.int .i64 0),.v (.int .i64 0),.cap 3 40 []] [(0,0,1,.t 14),(1,1,1,.t 16)]),o_ 8 (.alloc 24 [.v (.int .i64 0),.v (.int .i64 0),.cap 3 40 []]),n_ (.stn 24 3 (.t 8) (.t 17))]) (.seq (.seq (.reg [o_ 18 (.fad 24 0 0 (.t 3)),o_ 19 (.ld1 3 (.t 18)),o_ 20 (.bin .eql (.t 19) (.k (.int .i64 1))),m_ 21 20,p_ 22 21 (.fad 24 1 1 (.t 3)),p_ 23 21 (.ld1 3 (.t 22)),pm_ 24 21 2,p_ 25 21 (.bin .geq (.t 23) (.t 24)),o_ 26 (.pick (.t 21) (.t 25) (.k (.bool false)))]) (.cond (.t 26) (.reg [o_ 27 (.fad 24 1 1 (.t 3)),o_ 28 (.ld1 3 (.t 27)),m_ 29 1,o_ 30 (.bin .add (.t 28) (.t 29)),o_ 31 (.fad 24 1 1 (.t 8)),
 n_ (.st1 3 (.t 31) (.t 30))]) (.skip))) (.seq (.reg [o_ 32 (.fad 24 1 1 (.t 8)),o_ 33 (.ld1 3 (.t 32)),o_ 34 (.bin .gtr (.t 33) (.k (.int .i64 65535))),m_ 9 34]) (.seq (.seq (.reg [o_ 10 (.mv (.k (.int .i64 0)))]) (.block 0 (.loop c102b0))) (.seq (.reg [o_ 68 (.ldn 24 3 (.t 8)),m_ 69 9,n_ (.stn 24 3 (.t 6) (.t 68)),m_ 7 69]) (.ret))))))
def r102:List RR:=[.cn 6 3,.t 7]
theorem ok102:okFn Go.Proofs.Try.prog 25 70 c102 r102 3=true:=by kernel_rfl
def c55:SCode:=
 .seq (.reg [o_ 2 (.box 24 (.t 0)),o_ 4 (.alloc 24 [.v (.int .i64 0),.v (.int .i64 0),.cap 3 40 []]),o_ 5 (.mv (.k (.bool false)))]) (.seq (.seq (.reg [o_ 6 (.ldn 24 3 (.t 2)),o_ 7 (.call (.f 23) [.t 6]),o_ 8 (.bin .neq (.t 7) (.k (.int .i64 0))),m_ 9 8,qm_ 10 9 1,q_ 11 9 (.call (.f 24) [.t 10,.k (.int .i64 0),.k (.int .i64 65535)]),q_ 12 9 (.not (.t 11)),o_ 13 (.pick (.t 9) (.k (.bool true)) (.t 12)),m_ 14 13,q_ 15 14 (.ldn 24 3 (.t 2)),qm_ 16 14 1,q_ 17 14 (.call (.f 12) [.t 15,.t 16]),q_ 18 14 (.bin .gtr (.t 17) (.k (.int .i64 0))),o_ 19 (.pick (.t 14) (.k (.bool true)) (.t 18))]) (.cond (.t 19) (.seq (.reg [o_ 20 (.build 24 [.v (.int .i64 0),.v (.int .i64 0),.cap 3 40 []] []),n_ (.stn 24 3 (.t 4) (.t 20)),o_ 5 (.mv (.k (.bool false)))]) (.ret)) (.skip))) (.seq (.reg [o_ 21 (.ldn 24 3 (.t 2)),m_ 22 1,o_ 23 (.call (.f 27) [.t 21,.t 22]),n_ (.stn 24 3 (.t 4) (.t 23)),
 o_ 5 (.mv (.k (.bool true)))]) (.ret)))
def r55:List RR:=[.cn 4 3,.t 5]
theorem ok55:okFn Go.Proofs.Try.prog 9 24 c55 r55 2=true:=by kernel_rfl
def c104b0:SCode:=
 .seq (.seq (.reg [m_ 25 6,o_ 26 (.fad 24 2 2 (.t 2)),o_ 27 (.ld1 22 (.t 26)),o_ 28 (.len 22 (.t 27)),o_ 29 (.bin .lss (.t 25) (.t 28))]) (.cond (.t 29) (.skip) (.exit 0))) (.seq (.block 1 (.dreg [0,1,0,4,0,28,60,0,0,256,0,1792,3968,8188,16380,32767,65535,131071] [o_ 32 (.fad 24 2 2 (.t 5)),o_ 33 (.ld1 22 (.t 32)),o_ 34 (.fad 24 2 2 (.t 2)),o_ 35 (.ld1 22 (.t 34)),m_ 36 6,o_ 37 (.iad 24 3 (.t 35) (.t 36)),o_ 38 (.ldn 24 3 (.t 37)),m_ 39 1,o_ 40 (.fad 24 0 0 (.t 2)),o_ 41 (.ld1 3 (.t 40)),m_ 42 6,o_ 43 (.call (.f 38) [.t 41,.t 42]),o_ 44 (.bin .add (.t 39) (.t 43)),o_ 45 (.call (.f 27) [.t 38,.t 44]),o_ 46 (.lit 24 3 40 [.t 45]),o_ 47 (.app 24 3 40 (.t 33) (.t 46)),o_ 48 (.fad 24 2 2 (.t 5)),n_ (.st1 22 (.t 48) (.t 47))])) (.reg [m_ 30 6,o_ 31 (.bin .add (.t 30) (.k (.int .i64 1))),m_ 6 31]))
def c104:SCode:=
 .seq (.reg [o_ 2 (.box 24 (.t 0)),o_ 4 (.alloc 24 [.v (.int .i64 0),.v (.int .i64 0),.cap 3 40 []])]) (.seq (.reg [o_ 7 (.fad 24 0 0 (.t 2)),o_ 8 (.ld1 3 (.t 7)),o_ 9 (.fad 24 1 1 (.t 2)),o_ 10 (.ld1 3 (.t 9)),o_ 11 (.build 24 [.v (.int .i64 0),.v (.int .i64 0),.cap 3 40 []] [(0,0,1,.t 8),(1,1,1,.t 10)]),o_ 5 (.alloc 24 [.v (.int .i64 0),.v (.int .i64 0),.cap 3 40 []]),n_ (.stn 24 3 (.t 5) (.t 11))]) (.seq (.seq (.reg [o_ 12 (.fad 24 0 0 (.t 2)),o_ 13 (.ld1 3 (.t 12)),o_ 14 (.bin .eql (.t 13) (.k (.int .i64 1))),m_ 15 14,p_ 16 15 (.fad 24 1 1 (.t 2)),p_ 17 15 (.ld1 3 (.t 16)),pm_ 18 15 1,p_ 19 15 (.bin .gtr (.t 17) (.t 18)),o_ 20 (.pick (.t 15) (.t 19) (.k (.bool false)))]) (.cond (.t 20) (.reg [o_ 21 (.fad 24 1 1 (.t 5)),o_ 22 (.ld1 3 (.t 21)),o_ 23 (.bin .sub (.t 22) (.k (.int .i64 1))),o_ 24 (.fad 24 1 1 (.t 5)),n_ (.st1 3 (.t 24) (.t 23))]) (.skip))) (.seq (.seq (.reg
 [o_ 6 (.mv (.k (.int .i64 0)))]) (.block 0 (.loop c104b0))) (.seq (.reg [o_ 49 (.ldn 24 3 (.t 5)),n_ (.stn 24 3 (.t 4) (.t 49))]) (.ret)))))
def r104:List RR:=[.cn 4 3]
theorem ok104:okFn Go.Proofs.Try.prog 27 50 c104 r104 2=true:=by kernel_rfl
def c10:SCode:=
 .seq (.reg [o_ 4 (.box 24 (.t 0)),o_ 8 (.mv (.k (.bool false)))]) (.seq (.seq (.reg [o_ 18 (.ldn 24 3 (.t 4)),o_ 19 (.lit 24 3 40 [.t 18]),o_ 20 (.call (.f 4) [.t 19])]) (.cond (.t 20) (.seq (.reg [o_ 8 (.mv (.k (.bool true)))]) (.ret)) (.skip))) (.seq (.reg [o_ 21 (.ldn 24 3 (.t 4)),o_ 22 (.call (.f 5) [.t 21]),o_ 9 (.alloc 24 [.v (.int .i64 0),.v (.int .i64 0),.cap 3 40 []]),n_ (.stn 24 3 (.t 9) (.t 22))]) (.seq (.reg [o_ 24 (.ldn 24 3 (.t 9)),m_ 25 1,m_ 26 2,o_ 27 (.call (.f 6) [.t 24,.t 25,.t 26]),m_ 23 27,o_ 28 (.ext (.t 23) 0),o_ 29 (.ext (.t 23) 1),o_ 10 (.alloc 24 [.v (.int .i64 0),.v (.int .i64 0),.cap 3 40 []]),n_ (.stn 24 3 (.t 10) (.t 28)),m_ 11 29]) (.seq (.reg [o_ 31 (.ldn 24 3 (.t 4)),m_ 32 1,m_ 33 2,o_ 34 (.call (.f 7) [.t 31,.t 32,.t 33]),m_ 30 34,o_ 35 (.ext (.t 30) 0),o_ 36 (.ext (.t 30) 1),o_ 12 (.alloc 24 [.v (.int .i64 0),.v (.int .i64 0),.cap 3 40 []]),
 n_ (.stn 24 3 (.t 12) (.t 35)),m_ 13 36]) (.seq (.reg [o_ 38 (.ldn 24 3 (.t 9)),m_ 39 3,o_ 40 (.call (.f 8) [.t 38,.t 39]),m_ 37 40,o_ 41 (.ext (.t 37) 0),o_ 42 (.ext (.t 37) 1),o_ 14 (.alloc 24 [.v (.int .i64 0),.v (.int .i64 0),.cap 3 40 []]),n_ (.stn 24 3 (.t 14) (.t 41)),m_ 15 42]) (.seq (.reg [o_ 44 (.ldn 24 3 (.t 4)),m_ 45 3,o_ 46 (.call (.f 9) [.t 44,.t 45]),m_ 43 46,o_ 47 (.ext (.t 43) 0),o_ 48 (.ext (.t 43) 1),o_ 16 (.alloc 24 [.v (.int .i64 0),.v (.int .i64 0),.cap 3 40 []]),n_ (.stn 24 3 (.t 16) (.t 47)),m_ 17 48]) (.seq (.seq (.dreg [0,0,3,7,15,15,63,127,255,511,1023,1023,4095,8191,16383,32767,32767,131071,262143,524287,1048575,2097151,2097151,8388607,2097151,2097151,67108863,134217727,268435455,536870911,1073741823,1073741823,4294967295,8589934591,17179869183] [m_ 49 11,m_ 50 13,o_ 51 (.bin .neq (.t 49) (.t 50)),m_ 52 51,
 q_ 53 52 (.ldn 24 3 (.t 10)),q_ 54 52 (.ldn 24 3 (.t 12)),q_ 55 52 (.call (.f 10) [.t 53,.t 54]),q_ 56 52 (.not (.t 55)),o_ 57 (.pick (.t 52) (.k (.bool true)) (.t 56)),m_ 58 57,qm_ 59 58 15,qm_ 60 58 17,q_ 61 58 (.beq true 4 (.t 59) (.t 60)),o_ 62 (.pick (.t 58) (.k (.bool true)) (.t 61)),m_ 63 62,q_ 64 63 (.ldn 24 3 (.t 14)),q_ 65 63 (.ldn 24 3 (.t 16)),q_ 66 63 (.call (.f 10) [.t 64,.t 65]),q_ 67 63 (.not (.t 66)),o_ 68 (.pick (.t 63) (.k (.bool true)) (.t 67)),m_ 69 68,q_ 70 69 (.ldn 24 3 (.t 9)),qm_ 71 69 3,q_ 72 69 (.call (.f 11) [.t 70,.t 71]),q_ 73 69 (.ldn 24 3 (.t 4)),qm_ 74 69 3,q_ 75 69 (.call (.f 12) [.t 73,.t 74]),q_ 76 69 (.bin .neq (.t 72) (.t 75)),o_ 77 (.pick (.t 69) (.k (.bool true)) (.t 76)),m_ 78 77,q_ 79 78 (.ldn 24 3 (.t 9)),q_ 80 78 (.ldn 24 3 (.t 4)),q_ 81 78 (.call (.f 10) [.t 79,.t 80]),q_ 82 78 (.not (.t 81)),
 o_ 83 (.pick (.t 78) (.k (.bool true)) (.t 82))]) (.cond (.t 83) (.seq (.reg [o_ 8 (.mv (.k (.bool false)))]) (.ret)) (.skip))) (.seq (.reg [o_ 84 (.ldn 24 3 (.t 10)),o_ 85 (.call (.f 13) [.t 84])]) (.seq (.reg [o_ 86 (.ldn 24 3 (.t 14)),o_ 87 (.call (.f 13) [.t 86])]) (.seq (.reg [o_ 88 (.ldn 24 3 (.t 9)),o_ 89 (.ldn 24 3 (.t 4)),o_ 90 (.call (.f 10) [.t 88,.t 89]),m_ 91 90,p_ 92 91 (.call (.f 14) []),o_ 93 (.pick (.t 91) (.t 92) (.k (.bool false))),m_ 8 93]) (.ret)))))))))))
def r10:List RR:=[.t 8]
theorem ok10:okFn Go.Proofs.Try.prog 3 94 c10 r10 4=true:=by kernel_rfl
def c57b0:SCode:=
 .seq (.seq (.reg [m_ 3 2,o_ 4 (.fad 24 2 2 (.t 1)),o_ 5 (.ld1 22 (.t 4)),o_ 6 (.len 22 (.t 5)),o_ 7 (.bin .lss (.t 3) (.t 6))]) (.cond (.t 7) (.skip) (.exit 0))) (.seq (.block 1 (.seq (.reg [o_ 10 (.fad 24 2 2 (.t 1)),o_ 11 (.ld1 22 (.t 10)),m_ 12 2,o_ 13 (.iad 24 3 (.t 11) (.t 12)),o_ 14 (.ldn 24 3 (.t 13)),o_ 15 (.call (.f 13) [.t 14])]) (.dreg [0,1,0,0,8,0,56,120,248,504,1023,2047,4095] [o_ 16 (.fad 24 2 2 (.t 1)),o_ 17 (.ld1 22 (.t 16)),m_ 18 2,o_ 19 (.fad 24 2 2 (.t 1)),o_ 20 (.ld1 22 (.t 19)),m_ 21 2,o_ 22 (.iad 24 3 (.t 20) (.t 21)),o_ 23 (.fad 24 1 1 (.t 22)),o_ 24 (.ld1 3 (.t 23)),o_ 25 (.bin .add (.t 24) (.k (.int .i64 77))),o_ 26 (.iad 24 3 (.t 17) (.t 18)),o_ 27 (.fad 24 1 1 (.t 26)),n_ (.st1 3 (.t 27) (.t 25))]))) (.reg [m_ 8 2,o_ 9 (.bin .add (.t 8) (.k (.int .i64 1))),m_ 2 9]))
def c57:SCode:=
 .seq (.reg [o_ 1 (.box 24 (.t 0))]) (.seq (.reg [o_ 2 (.mv (.k (.int .i64 0)))]) (.block 0 (.loop c57b0)))
def r57:List RR:=[]
theorem ok57:okFn Go.Proofs.Try.prog 13 28 c57 r57 1=true:=by kernel_rfl
def c105b0:SCode:=
 .seq (.seq (.reg [m_ 16 6,o_ 17 (.fad 24 2 2 (.t 2)),o_ 18 (.ld1 22 (.t 17)),o_ 19 (.len 22 (.t 18)),o_ 20 (.bin .lss (.t 16) (.t 19))]) (.cond (.t 20) (.skip) (.exit 0))) (.seq (.block 1 (.dreg [0,0,2,0,14,30,0,0,128,0,896,1984,4094,8191,16383] [m_ 23 5,o_ 24 (.fad 24 2 2 (.t 2)),o_ 25 (.ld1 22 (.t 24)),m_ 26 6,o_ 27 (.iad 24 3 (.t 25) (.t 26)),o_ 28 (.ldn 24 3 (.t 27)),m_ 29 1,o_ 30 (.fad 24 0 0 (.t 2)),o_ 31 (.ld1 3 (.t 30)),m_ 32 6,o_ 33 (.call (.f 38) [.t 31,.t 32]),o_ 34 (.bin .add (.t 29) (.t 33)),o_ 35 (.call (.f 30) [.t 28,.t 34]),o_ 36 (.bin .add (.t 23) (.t 35)),m_ 5 36])) (.reg [m_ 21 6,o_ 22 (.bin .add (.t 21) (.k (.int .i64 1))),m_ 6 22]))
def c105:SCode:=
 .seq (.reg [o_ 2 (.box 24 (.t 0)),o_ 4 (.mv (.k (.int .i64 0)))]) (.seq (.reg [o_ 5 (.mv (.k (.int .i64 0)))]) (.seq (.seq (.reg [o_ 7 (.fad 24 0 0 (.t 2)),o_ 8 (.ld1 3 (.t 7)),o_ 9 (.bin .eql (.t 8) (.k (.int .i64 1))),m_ 10 9,p_ 11 10 (.fad 24 1 1 (.t 2)),p_ 12 10 (.ld1 3 (.t 11)),pm_ 13 10 1,p_ 14 10 (.bin .eql (.t 12) (.t 13)),o_ 15 (.pick (.t 10) (.t 14) (.k (.bool false)))]) (.cond (.t 15) (.reg [o_ 5 (.mv (.k (.int .i64 1)))]) (.skip))) (.seq (.seq (.reg [o_ 6 (.mv (.k (.int .i64 0)))]) (.block 0 (.loop c105b0))) (.seq (.reg [m_ 37 5,m_ 4 37]) (.ret)))))
def r105:List RR:=[.t 4]
theorem ok105:okFn Go.Proofs.Try.prog 30 38 c105 r105 2=true:=by kernel_rfl
def c56:SCode:=
 .seq (.reg [o_ 2 (.box 24 (.t 0)),o_ 4 (.mv (.k (.int .i64 0)))]) (.seq (.seq (.reg [m_ 5 1,o_ 6 (.call (.f 24) [.t 5,.k (.int .i64 0),.k (.int .i64 65535)]),o_ 7 (.not (.t 6))]) (.cond (.t 7) (.seq (.reg [o_ 4 (.mv (.k (.int .i64 0)))]) (.ret)) (.skip))) (.seq (.reg [o_ 8 (.ldn 24 3 (.t 2)),m_ 9 1,o_ 10 (.call (.f 30) [.t 8,.t 9]),m_ 4 10]) (.ret)))
def r56:List RR:=[.t 4]
theorem ok56:okFn Go.Proofs.Try.prog 12 11 c56 r56 2=true:=by kernel_rfl
end Go.Abs

namespace Go.Abs
open Go.Proofs
theorem fn51 (k i:Int):Fn Try.prog 38 [ib k,ib i] (ib (bindsOf k i)):=by
 refine fn_of (base:=51000) ok51 rfl fun σ h0 hr=>?_
 have s0:=h0 0
 have s1:=h0 1
 rw [slots0] at s0
 rw [slots1] at s1
 simp only [ib] at s0 s1
 clear h0 hr
 unfold c51
 simp [s0,s1,r51,ib]
 refine ⟨fun h1 h2=>?_,fun h=>?_⟩
 ·simp only [bindsOf];rw [if_pos (by omega)]
 ·simp only [bindsOf];rw [if_neg (by omega)]
mutual
def T.rcnt:T → Int → Int
 | .mk k n ts,v=>T.rcntL k v 0 (if k=1 ∧ n=v then 1 else 0) ts
def T.rcntL (k v:Int):Int → Int → List T → Int
 | _,a,[]=>a
 | i,a,t :: ts=>T.rcntL k v (i + 1) (IntKind.wrap .i64 (a + T.rcnt t (IntKind.wrap .i64 (v + bindsOf k i)))) ts
end
theorem fn105 (t:T):∀ v,Fn Try.prog 30 [tm t,ib v] (ib (t.rcnt v)):=by
 induction t using T.ind with
 | h k n ts ih=>
 intro v
 refine fn_of (base:=105000) ok105 rfl fun σ h0 hr=>?_
 have s0:=h0 0
 have s1:=h0 1
 rw [slots0] at s0
 rw [slots1] at s1
 have hlen:=real_kids (hr (tm (.mk k n ts)) (by simp))
 rw [kids_mk] at hlen
 simp only [tm,cells_mk,ib] at s0 s1
 clear h0 hr
 have loop:∀ (a0:Int) (σ:St),σ.sl 5=.c (.v (.int .i64 a0)) → σ.sl 1=.c (.v (.int .i64 v)) → σ.sl 2=.c (.ref 105002 (σ.tg 105002) 0) → σ.ob 105002=some (.box 24 (T.mk k n ts).cells) → σ.sl 6=.c (.v (.int .i64 0)) →
   T.rcntL k v 0 a0 ts=(T.mk k n ts).rcnt v → W Try.prog 105000 (.loop c105b0) σ (onBlock 0 (seqC Try.prog 105000 (.seq (.reg
   [⟨some 37,none,.mv (.t 5)⟩,
    ⟨some 4,none,.mv (.t 37)⟩])
 (.ret)) (onEnd [] r105 (ib ((T.mk k n ts).rcnt v)) []))):=by
  intro a0 σ q5 q1 q2 qo q6 hres
  simp only [cells_mk] at qo
  refine W_loop (fun m σ=>∃ (i:Nat) (a:Int),i + m=ts.length ∧ T.rcntL k v i a (ts.drop i)=T.rcntL k v 0 a0 ts ∧ σ.sl 5=.c (.v (.int .i64 a)) ∧ σ.sl 1=.c (.v (.int .i64 v)) ∧ σ.sl 2=.c (.ref 105002 (σ.tg 105002) 0) ∧ σ.ob 105002=some (.box 24 (T.mk k n ts).cells) ∧ σ.sl 6=.c (.v (.int .i64 i))) ts.length ?_ ?_
  ·exact ⟨0,a0,by simp [q5,q1,q2,qo,q6,cells_mk]⟩
  ·clear q5 q1 q2 qo q6
   rintro m σ ⟨i,a,hm,hp,q5,q1,q2,qo,q6⟩
   unfold c105b0
   simp only [cells_mk] at qo
   by_cases hi:i < ts.length
   ·obtain ⟨t,ht⟩:=at_of hi
    obtain ⟨_,ht'⟩:=getE ht
    have w1:=wrap_succ (i:=i) (by omega)
    rw [drop_at ht,T.rcntL] at hp
    simp [q5,q1,q2,qo,q6,hi,ht']
    refine W_dregA ?_
    simp [q5,q1,q2,qo,q6,hi,ht']
    refine CallA.fn (fn51 k i) (by simp [ib]) (by simp) rfl ?_
    simp [ib]
    refine CallA.fn (ih t (List.mem_of_getElem? ht) (IntKind.wrap .i64 (v + bindsOf k i))) (by simp [tm,ib]) (by simp) rfl ?_
    simp [ib]
    refine realC_n ?_
    simp [q6]
    refine ⟨m - 1,by omega,i + 1,by omega,_,hp,?_⟩
    simp [q1,q2,qo,cells_mk,w1]
   ·rw [List.drop_eq_nil_of_le (by omega),T.rcntL] at hp
    simp [q5,q1,q2,qo,q6,hi,r105,ib,← hres,hp]
 unfold c105
 by_cases hk:k=1
 ·subst hk
  by_cases hn:n=v
  ·subst hn
   simp [s0,s1]
   exact loop 1 _ (by simp) (by simp [s1]) (by simp) (by simp [cells_mk]) (by simp) (by simp [T.rcnt])
  ·simp [s0,s1,hn]
   exact loop 0 _ (by simp) (by simp [s1]) (by simp) (by simp [cells_mk]) (by simp) (by simp [T.rcnt,hn])
 ·simp [s0,s1,hk]
  exact loop 0 _ (by simp) (by simp [s1]) (by simp) (by simp [cells_mk]) (by simp) (by simp [T.rcnt,hk])
def T.rcount (t:T) (v:Int):Int:=if mayB v=true then t.rcnt v else 0
theorem fn56 (t:T) (v:Int):Fn Try.prog 12 [tm t,ib v] (ib (t.rcount v)):=by
 refine fn_of (base:=56000) ok56 rfl fun σ h0 hr=>?_
 have s0:=h0 0
 have s1:=h0 1
 rw [slots0] at s0
 rw [slots1] at s1
 simp only [tm,ib] at s0 s1
 clear h0 hr
 unfold c56
 simp [s0,s1]
 refine ECall.fn (fn101 v 0 65535) (by simp [ib]) (by simp) rfl fun _=>?_
 by_cases hb:mayB v=true
 ·have hb':(decide (0 ≤ v) && decide (v ≤ 65535))=true:=hb
  simp [bb,hb',s1]
  refine ECall.fn (fn105 t v) (by simp [ib,tm]) (by simp) rfl fun _=>?_
  simp [ib,r56,T.rcount,hb]
 ·have hb':(decide (0 ≤ v) && decide (v ≤ 65535))=false:=by simpa [mayB] using hb
  simp [bb,hb',r56,ib,T.rcount,hb]
def mvN (k n b f:Int):Int:=if k=1 ∧ f ≤ n then IntKind.wrap .i64 (n + b) else n
mutual
def T.rmv:T → Int → Int → T × Bool
 | .mk k n ts,b,f=>(.mk k (mvN k n b f) (T.rmvL k b f 0 ts).1,decide (65535 < mvN k n b f) || (T.rmvL k b f 0 ts).2)
def T.rmvL (k b f:Int):Int → List T → List T × Bool
 | _,[]=>([],false)
 | i,t :: ts=>((T.rmv t b (IntKind.wrap .i64 (f + bindsOf k i))).1 :: (T.rmvL k b f (i + 1) ts).1,(T.rmv t b (IntKind.wrap .i64 (f + bindsOf k i))).2 || (T.rmvL k b f (i + 1) ts).2)
end
def Grow (σ:St) (B K:Nat) (k m:Int) (done:List T):Prop:=
 (done=[] ∧ σ.ob B=some (.box 24 [.v (.int .i64 k),.v (.int .i64 m),.cap 3 40 []])) ∨ (done ≠ [] ∧ σ.ob B=some (.box 24 [.v (.int .i64 k),.v (.int .i64 m),.own K (σ.tg K)]) ∧ σ.ob K=some (.row 24 3 40 (done.map T.cells)))
def J102 (k n b f:Int) (ts:List T) (m:Nat) (σ:St):Prop:=∃ (i:Nat) (done:List T) (o:Bool),i + m=ts.length ∧ done.length=i ∧ (done ++ (T.rmvL k b f i (ts.drop i)).1,o || (T.rmvL k b f i (ts.drop i)).2)=((T.rmvL k b f 0 ts).1,decide (65535 < mvN k n b f) || (T.rmvL k b f 0 ts).2) ∧
   σ.sl 1=.c (.v (.int .i64 b)) ∧ σ.sl 2=.c (.v (.int .i64 f)) ∧ σ.sl 3=.c (.ref 102003 (σ.tg 102003) 0) ∧ σ.ob 102003=some (.box 24 (T.mk k n ts).cells) ∧ σ.sl 6=.c (.ref 102006 (σ.tg 102006) 0) ∧ σ.ob 102006=some (.box 24 [.v (.int .i64 0),.v (.int .i64 0),.cap 3 40 []]) ∧
   σ.sl 8=.c (.ref 102008 (σ.tg 102008) 0) ∧ Grow σ 102008 102062 k (mvN k n b f) done ∧ σ.sl 9=.c (.v (.bool o)) ∧ σ.sl 10=.c (.v (.int .i64 i))
theorem fn102 (t:T) (b:Int):∀ f:Int,Fn Try.prog 25 [tm t,ib b,ib f] (.tup [tm (t.rmv b f).1,bb (t.rmv b f).2]):=by
 induction t using T.ind with
 | h k n ts ih=>
 intro f
 refine fn_of (base:=102000) ok102 rfl fun σ h0 hr=>?_
 have s0:=h0 0
 have s1:σ.sl 1=ib b:=h0 1
 have s2:σ.sl 2=ib f:=h0 2
 rw [slots0] at s0
 simp only [tm,ib,cells_mk] at s0 s1 s2
 have hlen:=real_kids (hr (tm (.mk k n ts)) (by simp))
 rw [kids_mk] at hlen
 clear h0 hr
 have loop:∀ σ:St,σ.sl 1=.c (.v (.int .i64 b)) → σ.sl 2=.c (.v (.int .i64 f)) → σ.sl 3=.c (.ref 102003 (σ.tg 102003) 0) → σ.ob 102003=some (.box 24 (T.mk k n ts).cells) → σ.sl 6=.c (.ref 102006 (σ.tg 102006) 0) → σ.ob 102006=some (.box 24 [.v (.int .i64 0),.v (.int .i64 0),.cap 3 40 []]) →
   σ.sl 8=.c (.ref 102008 (σ.tg 102008) 0) → σ.ob 102008=some (.box 24 [.v (.int .i64 k),.v (.int .i64 (mvN k n b f)),.cap 3 40 []]) → σ.sl 9=.c (.v (.bool (decide (65535 < mvN k n b f)))) → σ.sl 10=.c (.v (.int .i64 0)) →
   W Try.prog 102000 (.loop c102b0) σ (onBlock 0 (seqC Try.prog 102000 (.seq (.reg
   [⟨some 68,none,.ldn 24 3 (.t 8)⟩,
    ⟨some 69,none,.mv (.t 9)⟩,
    ⟨none,none,.stn 24 3 (.t 6) (.t 68)⟩,
    ⟨some 7,none,.mv (.t 69)⟩])
 (.ret)) (onEnd [] r102 (.tup [tm ((T.mk k n ts).rmv b f).1,bb ((T.mk k n ts).rmv b f).2]) []))):=by
  intro σ q1 q2 q3 o3 q6 o6 q8 o8 q9 q10
  refine W_loop (J102 k n b f ts) ts.length ?_ ?_
  ·exact ⟨0,[],_,by simp,rfl,by simp,q1,q2,q3,o3,q6,o6,q8,.inl ⟨rfl,o8⟩,q9,q10⟩
  ·clear q1 q2 q3 o3 q6 o6 q8 o8 q9 q10
   rintro m σ ⟨i,done,o,hm,hd,hp,q1,q2,q3,o3,q6,o6,q8,hg,q9,q10⟩
   unfold c102b0
   simp only [cells_mk] at o3
   by_cases hi:i < ts.length
   ·obtain ⟨t,ht⟩:=at_of hi
    obtain ⟨_,ht'⟩:=getE ht
    have w1:=wrap_succ (i:=i) (by omega)
    rw [drop_at ht,T.rmvL] at hp
    have hih:=ih t (List.mem_of_getElem? ht) (IntKind.wrap .i64 (f + bindsOf k i))
    simp [q1,q2,q3,o3,q10,hi,ht']
    refine W_dregD w102_0 f102_0 (by decide) ?_
    unfold w102_0 f102_0
    simp [q1,q2,q3,o3,q10,hi,ht']
    refine CallD.fn (fn51 k i) (by simp [ib]) (by simp) rfl (by simp) ?_
    simp [ib,q1,q2]
    refine CallD.fn hih (by simp [tm,ib]) (by simp) (by simp [tm,bb,AV.keys2]) (by simp) ?_
    generalize hx:t.rmv b (IntKind.wrap .i64 (f + bindsOf k i))=x at hp
    simp [tm,bb,AV.keys2]
    refine realC_n ?_
    rcases hg with ⟨h1,o8⟩ | ⟨h1,o8,oK⟩
    ·subst h1
     simp at hd
     subst hd
     cases o <;> simp [q8,o8,q9,q10,room]
     ·refine ⟨fun c hc=>cells_isD' x.1 c hc,m - 1,by omega,1,[x.1],x.2,by omega,rfl,by simpa using hp,?_⟩
      simp at w1
      simp [q1,q2,q3,o3,q6,o6,q8,cells_mk,w1,Grow]
     ·refine ⟨fun c hc=>cells_isD' x.1 c hc,m - 1,by omega,1,[x.1],true,by omega,rfl,by simpa using hp,?_⟩
      simp at w1
      simp [q1,q2,q3,o3,q6,o6,q8,cells_mk,w1,Grow]
    ·have h2:(done.length + 1) * 40 ≤ 140737488355328:=by omega
     have h3:done ++ [x.1] ≠ []:=by simp
     cases o <;> simp [q8,o8,oK,q9,q10,room,h2]
     ·refine ⟨fun c hc=>cells_isD' x.1 c hc,m - 1,by omega,i + 1,done ++ [x.1],x.2,by omega,by simp [hd],by simpa using hp,?_⟩
      simp [q1,q2,q3,o3,q6,o6,q8,cells_mk,w1,Grow]
     ·refine ⟨fun c hc=>cells_isD' x.1 c hc,m - 1,by omega,i + 1,done ++ [x.1],true,by omega,by simp [hd],by simpa using hp,?_⟩
      simp [q1,q2,q3,o3,q6,o6,q8,cells_mk,w1,Grow]
   ·have hil:i=ts.length:=by omega
    rw [List.drop_eq_nil_of_le (by omega),T.rmvL] at hp
    simp only [List.append_nil,Bool.or_false,Prod.mk.injEq] at hp
    rcases hg with ⟨h1,o8⟩ | ⟨h1,o8,oK⟩
    ·subst h1
     simp [q3,o3,q6,o6,q8,o8,q9,q10,hi,r102,tm,bb,cells_mk,T.rmv,← hp.1,← hp.2]
    ·simp [q3,o3,q6,o6,q8,o8,oK,q9,q10,hi,r102,tm,bb,cells_mk,T.rmv,← hp.1,← hp.2]
 unfold c102
 by_cases hk:k=1
 ·subst hk
  by_cases hn:f ≤ n
  ·simp [s0,s1,s2,hn]
   exact loop _ (by simp [s1]) (by simp [s2]) (by simp) (by simp [cells_mk]) (by simp) (by simp) (by simp) (by simp [mvN,hn]) (by simp [mvN,hn]) (by simp)
  ·simp [s0,s1,s2,hn]
   exact loop _ (by simp [s1]) (by simp [s2]) (by simp) (by simp [cells_mk]) (by simp) (by simp) (by simp) (by simp [mvN,hn]) (by simp [mvN,hn]) (by simp)
 ·simp [s0,s1,s2,hk]
  exact loop _ (by simp [s1]) (by simp [s2]) (by simp) (by simp [cells_mk]) (by simp) (by simp) (by simp) (by simp [mvN,hk]) (by simp [mvN,hk]) (by simp)
end Go.Abs

namespace Go.Abs
open Go.Proofs
def T.rshift (t:T) (b f:Int):T × Int:=
 if t.check ≠ 0 then (.zero,t.check) else if !(mayB b && mayB f) then (.zero,1) else if (t.rmv b f).2 then (.zero,6) else ((t.rmv b f).1,0)
theorem fn53 (t:T) (b f:Int):Fn Try.prog 7 [tm t,ib b,ib f] (.tup [tm (t.rshift b f).1,ib (t.rshift b f).2]):=by
 refine fn_of (base:=53000) ok53 rfl fun σ h0 hr=>?_
 have s0:=h0 0
 have s1:σ.sl 1=ib b:=h0 1
 have s2:σ.sl 2=ib f:=h0 2
 rw [slots0] at s0
 simp only [tm,ib] at s0 s1 s2
 clear h0 hr
 unfold c53
 simp [s0,s1,s2]
 refine ECall.fn (fn27 t) (by simp [tm]) (by simp) rfl fun _=>?_
 simp [ib]
 refine ⟨fun hc=>?_,fun hc=>?_⟩
 ·simp [r53,T.rshift,hc,tm,cells_mk,T.zero]
 ·simp [hc,s0,s1,s2]
  refine ECall.fn (fn101 b 0 65535) (by simp [ib]) (by simp) rfl fun _=>?_
  simp [bb,s1,s2]
  refine GCall.fn (fun _=>fn101 f 0 65535) (by simp [ib]) (by simp) rfl fun _=>?_
  simp [bb,r53,s0,s1,s2]
  refine ⟨fun hm=>?_,fun m1 m2 m3 m4=>?_⟩
  ·have hm':(mayB b && mayB f)=false:=by
    simp only [mayB,Bool.and_eq_false_iff,decide_eq_false_iff_not];omega
   simp [T.rshift,hc,hm',tm,cells_mk,T.zero]
  ·have hm':(mayB b && mayB f)=true:=by
    simp only [mayB,Bool.and_eq_true,decide_eq_true_eq];omega
   refine ECall.fn (fn102 t b f) (by simp [tm,ib]) (by simp) (by simp [tm,bb,AV.keys2]) fun _=>?_
   simp [tm,bb]
   have hsh:t.rshift b f=if (t.rmv b f).2 then (.zero,6) else ((t.rmv b f).1,0):=by simp [T.rshift,hc,hm']
   refine ⟨fun he=>?_,fun he=>?_⟩
   ·simp [he,hsh,tm,cells_mk,T.zero]
   ·simp [he,hsh,tm,cells_mk,T.zero]
def lsN (k n c:Int):Int:=if k=1 ∧ c < n then IntKind.wrap .i64 (n - 1) else n
mutual
def T.rls:T → Int → T
 | .mk k n ts,c=>.mk k (lsN k n c) (T.rlsL k c 0 ts)
def T.rlsL (k c:Int):Int → List T → List T
 | _,[]=>[]
 | i,t :: ts=>T.rls t (IntKind.wrap .i64 (c + bindsOf k i)) :: T.rlsL k c (i + 1) ts
end
def J104 (k n c:Int) (ts:List T) (m:Nat) (σ:St):Prop:=∃ (i:Nat) (done:List T),i + m=ts.length ∧ done.length=i ∧ done ++ T.rlsL k c i (ts.drop i)=T.rlsL k c 0 ts ∧
   σ.sl 1=.c (.v (.int .i64 c)) ∧ σ.sl 2=.c (.ref 104002 (σ.tg 104002) 0) ∧ σ.ob 104002=some (.box 24 (T.mk k n ts).cells) ∧ σ.sl 4=.c (.ref 104004 (σ.tg 104004) 0) ∧ σ.ob 104004=some (.box 24 [.v (.int .i64 0),.v (.int .i64 0),.cap 3 40 []]) ∧
   σ.sl 5=.c (.ref 104005 (σ.tg 104005) 0) ∧ Grow σ 104005 104047 k (lsN k n c) done ∧ σ.sl 6=.c (.v (.int .i64 i))
theorem fn104 (t:T):∀ c:Int,Fn Try.prog 27 [tm t,ib c] (tm (t.rls c)):=by
 induction t using T.ind with
 | h k n ts ih=>
 intro c
 refine fn_of (base:=104000) ok104 rfl fun σ h0 hr=>?_
 have s0:=h0 0
 have s1:σ.sl 1=ib c:=h0 1
 rw [slots0] at s0
 simp only [tm,ib,cells_mk] at s0 s1
 have hlen:=real_kids (hr (tm (.mk k n ts)) (by simp))
 rw [kids_mk] at hlen
 clear h0 hr
 have loop:∀ σ:St,σ.sl 1=.c (.v (.int .i64 c)) → σ.sl 2=.c (.ref 104002 (σ.tg 104002) 0) → σ.ob 104002=some (.box 24 (T.mk k n ts).cells) → σ.sl 4=.c (.ref 104004 (σ.tg 104004) 0) → σ.ob 104004=some (.box 24 [.v (.int .i64 0),.v (.int .i64 0),.cap 3 40 []]) →
   σ.sl 5=.c (.ref 104005 (σ.tg 104005) 0) → σ.ob 104005=some (.box 24 [.v (.int .i64 k),.v (.int .i64 (lsN k n c)),.cap 3 40 []]) → σ.sl 6=.c (.v (.int .i64 0)) →
   W Try.prog 104000 (.loop c104b0) σ (onBlock 0 (seqC Try.prog 104000 (.seq (.reg
   [⟨some 49,none,.ldn 24 3 (.t 5)⟩,
    ⟨none,none,.stn 24 3 (.t 4) (.t 49)⟩])
 (.ret)) (onEnd [] r104 (tm ((T.mk k n ts).rls c)) []))):=by
  intro σ q1 q2 o2 q4 o4 q5 o5 q6
  refine W_loop (J104 k n c ts) ts.length ?_ ?_
  ·exact ⟨0,[],by simp,rfl,by simp,q1,q2,o2,q4,o4,q5,.inl ⟨rfl,o5⟩,q6⟩
  ·clear q1 q2 o2 q4 o4 q5 o5 q6
   rintro m σ ⟨i,done,hm,hd,hp,q1,q2,o2,q4,o4,q5,hg,q6⟩
   unfold c104b0
   simp only [cells_mk] at o2
   by_cases hi:i < ts.length
   ·obtain ⟨t,ht⟩:=at_of hi
    obtain ⟨_,ht'⟩:=getE ht
    have w1:=wrap_succ (i:=i) (by omega)
    rw [drop_at ht,T.rlsL] at hp
    have hih:=ih t (List.mem_of_getElem? ht) (IntKind.wrap .i64 (c + bindsOf k i))
    simp [q1,q2,o2,q6,hi,ht']
    refine W_dregA ?_
    rcases hg with ⟨h1,o5⟩ | ⟨h1,o5,oK⟩
    ·subst h1
     simp at hd
     subst hd
     simp [q1,q2,o2,q5,o5,q6,hi,ht']
     refine CallA.fn (fn51 k 0) (by simp [ib]) (by simp) rfl ?_
     simp [ib]
     refine CallA.fn hih (by simp [tm,ib]) (by simp) (by simp [tm]) ?_
     generalize hx:t.rls (IntKind.wrap .i64 (c + bindsOf k ((0:Nat):Int)))=x at hp
     simp [tm,q5,o5,room]
     refine ⟨fun d hd=>cells_isD' x d hd,?_⟩
     refine ⟨rfl,rfl,realC_n ?_⟩
     simp [q6]
     refine ⟨m - 1,by omega,1,[x],by omega,rfl,by simpa using hp,?_⟩
     simp at w1
     simp [q1,q2,o2,q4,o4,q5,cells_mk,w1,Grow]
    ·have h2:(done.length + 1) * 40 ≤ 140737488355328:=by omega
     simp [q1,q2,o2,q5,o5,oK,q6,hi,ht']
     refine CallA.fn (fn51 k i) (by simp [ib]) (by simp) rfl ?_
     simp [ib]
     refine CallA.fn hih (by simp [tm,ib]) (by simp) (by simp [tm]) ?_
     generalize hx:t.rls (IntKind.wrap .i64 (c + bindsOf k i))=x at hp
     simp [tm,q5,o5,oK,room,h2]
     refine ⟨fun d hd=>cells_isD' x d hd,?_⟩
     refine ⟨rfl,rfl,realC_n ?_⟩
     simp [q6]
     refine ⟨m - 1,by omega,i + 1,done ++ [x],by omega,by simp [hd],by simpa using hp,?_⟩
     simp [q1,q2,o2,q4,o4,q5,cells_mk,w1,Grow]
   ·have hil:i=ts.length:=by omega
    rw [List.drop_eq_nil_of_le (by omega),T.rlsL] at hp
    simp only [List.append_nil] at hp
    rcases hg with ⟨h1,o5⟩ | ⟨h1,o5,oK⟩
    ·subst h1
     simp [q2,o2,q4,o4,q5,o5,q6,hi,r104,tm,cells_mk,T.rls,← hp]
    ·simp [q2,o2,q4,o4,q5,o5,oK,q6,hi,r104,tm,cells_mk,T.rls,← hp]
 unfold c104
 by_cases hk:k=1
 ·subst hk
  by_cases hn:c < n
  ·simp [s0,s1,hn]
   exact loop _ (by simp [s1]) (by simp) (by simp [cells_mk]) (by simp) (by simp) (by simp) (by simp [lsN,hn]) (by simp)
  ·simp [s0,s1,hn]
   exact loop _ (by simp [s1]) (by simp) (by simp [cells_mk]) (by simp) (by simp) (by simp) (by simp [lsN,hn]) (by simp)
 ·simp [s0,s1,hk]
  exact loop _ (by simp [s1]) (by simp) (by simp [cells_mk]) (by simp) (by simp) (by simp) (by simp [lsN,hk]) (by simp)
def T.rlower (t:T) (m:Int):T × Bool:=if t.check ≠ 0 then (.zero,false) else if mayB m=false then (.zero,false) else if 0 < t.rcount m then (.zero,false) else (t.rls m,true)
theorem fn55 (t:T) (m:Int):Fn Try.prog 9 [tm t,ib m] (.tup [tm (t.rlower m).1,bb (t.rlower m).2]):=by
 refine fn_of (base:=55000) ok55 rfl fun σ h0 hr=>?_
 have s0:=h0 0
 have s1:σ.sl 1=ib m:=h0 1
 rw [slots0] at s0
 simp only [tm,ib] at s0 s1
 clear h0 hr
 unfold c55
 simp [s0,s1]
 refine ECall.fn (fn27 t) (by simp [tm]) (by simp) rfl fun _=>?_
 simp [ib,s0,s1]
 refine GCall.fn (fun _=>fn101 m 0 65535) (by simp [ib]) (by simp) rfl fun _=>?_
 simp [bb,s0,s1]
 refine GCall.fn (fun _=>fn56 t m) (by simp [ib,tm]) (by simp) rfl fun _=>?_
 simp [ib,r55,s0,s1]
 have hmb:mayB m=(decide (0 ≤ m) && decide (m ≤ 65535)):=rfl
 refine ⟨fun he=>?_,fun e1=>?_⟩
 ·have hl:t.rlower m=(.zero,false):=by
   by_cases h1:t.check=0
   ·by_cases h2:mayB m=true
    ·have h3:0 < t.rcount m:=by
      simp [mayB] at h2
      omega
     simp [T.rlower,h1,h2,h3]
    ·simp [T.rlower,h1,h2]
   ·simp [T.rlower,h1]
  simp [hl,tm,bb,cells_mk,T.zero]
 ·intro h0 h1 h2
  have hm:mayB m=true:=by simp [mayB,h0,h1]
  have h3:¬ 0 < t.rcount m:=by omega
  refine ECall.fn (fn104 t m) (by simp [tm,ib]) (by simp) (by simp [tm]) fun _=>?_
  simp [tm,T.rlower,e1,hm,h3]
end Go.Abs

namespace Go.Abs
open Go.Proofs
theorem formed_kids {k n:Int} {ts:List T} (hf:(T.mk k n ts).formed=true):badHead k n ts.length=false ∧ ∀ t,t ∈ ts → t.formed=true:=by
 rw [T.formed,Bool.and_eq_true,formedL_all,List.all_eq_true] at hf
 exact ⟨by simpa using hf.1,hf.2⟩
theorem rmv_mv (b:Int) (hb:0 ≤ b) (hb2:b ≤ 65535) (t:T):t.formed=true → ∀ f:Int,0 ≤ f → f + t.count ≤ 4611686018427387 → t.rmv b f=(t.mv b f,t.ov b f):=by
 induction t using T.ind with
 | h k n ts ih=>
 intro hf f h0 h1
 obtain ⟨hh,hk⟩:=formed_kids hf
 have hn:0 ≤ n ∧ n ≤ 65535:=by
  simp [badHead] at hh
  omega
 have w2:IntKind.wrap .i64 (n + b)=n + b:=wrap_id (by omega) (by omega)
 by_cases hk1:k=1
 ·subst hk1
  simp [badHead,kidsOf] at hh
  have hts:ts=[]:=hh.1.1
  subst hts
  simp only [T.rmv,T.rmvL,T.mv,T.ov,mvN,w2,if_true,true_and,Bool.or_false]
  by_cases hlt:f ≤ n
  ·have:¬ n < f:=by omega
   simp [hlt,this]
  ·have:n < f:=by omega
   have h2:¬ 65535 < n:=by omega
   simp [hlt,this,h2]
 ·have key:∀ (ts:List T) (i:Int),(∀ t,t ∈ ts → ∀ f:Int,0 ≤ f → f + t.count ≤ 4611686018427387 → t.rmv b f=(t.mv b f,t.ov b f)) → f + 1 + T.countL ts ≤ 4611686018427387 → T.rmvL k b f i ts=(T.mvL k b f i ts,T.ovL k b f i ts):=by
   intro ts
   induction ts with
   | nil=>intro i _ _;simp [T.rmvL,T.mvL,T.ovL]
   | cons t ts ih2=>
    intro i h hc
    simp only [T.countL] at hc
    have hbd:=binds01 k i
    have ht:=h t (by simp) (f + bindsOf k i) (by omega) (by omega)
    simp only [T.rmvL,wrap_dp (k:=k) (i:=i) h0 (by omega),ht,T.mvL,T.ovL]
    rw [ih2 (i + 1) (fun u hu=>h u (by simp [hu])) (by omega)]
  simp only [T.count] at h1
  have h2:¬ 65535 < n:=by omega
  simp only [T.rmv,T.mv,T.ov,mvN,hk1,false_and,if_false,key ts 0 (fun t ht=>ih t ht (hk t ht)) (by omega),h2,decide_false,Bool.false_or]
theorem rshift_eq {t:T} (hc:t.count ≤ 1048576) (b f:Int):t.rshift b f=t.shift b f:=by
 by_cases h:t.check=0
 ·by_cases hm:(mayB b && mayB f)=true
  ·have hm2:=hm
   simp only [mayB,Bool.and_eq_true,decide_eq_true_eq] at hm2
   have h1:=count_6000 hc h
   have hf:=((check_iff t).1 h).2.2
   rw [shift_eq hc hm2.1.1 hm2.1.2 hm2.2.1 hm2.2.2]
   simp [T.rshift,h,hm,rmv_mv b hm2.1.1 hm2.1.2 t hf f hm2.2.1 (by omega)]
  ·have hm':(mayB b && mayB f)=false:=by simpa using hm
   simp [T.rshift,T.shift,h,hm']
 ·simp [T.rshift,T.shift,h]
theorem rls_lw (t:T):t.formed=true → ∀ c:Int,0 ≤ c → c + t.count ≤ 4611686018427387 → t.rls c=t.lw c:=by
 induction t using T.ind with
 | h k n ts ih=>
 intro hf c h0 h1
 obtain ⟨hh,hk⟩:=formed_kids hf
 have hn:0 ≤ n ∧ n ≤ 65535:=by
  simp [badHead] at hh
  omega
 have w2:IntKind.wrap .i64 (n - 1)=n - 1:=wrap_id (by omega) (by omega)
 by_cases hk1:k=1
 ·subst hk1
  simp [badHead,kidsOf] at hh
  have hts:ts=[]:=hh.1.1
  subst hts
  simp only [T.rls,T.rlsL,T.lw,lsN,w2,if_true,true_and]
 ·have key:∀ (ts:List T) (i:Int),(∀ t,t ∈ ts → ∀ c:Int,0 ≤ c → c + t.count ≤ 4611686018427387 → t.rls c=t.lw c) → c + 1 + T.countL ts ≤ 4611686018427387 → T.rlsL k c i ts=T.lwL k c i ts:=by
   intro ts
   induction ts with
   | nil=>intro i _ _;simp [T.rlsL,T.lwL]
   | cons t ts ih2=>
    intro i h hc
    simp only [T.countL] at hc
    have hbd:=binds01 k i
    have ht:=h t (by simp) (c + bindsOf k i) (by omega) (by omega)
    simp only [T.rlsL,wrap_dp (k:=k) (i:=i) h0 (by omega),ht,T.lwL]
    rw [ih2 (i + 1) (fun u hu=>h u (by simp [hu])) (by omega)]
  simp only [T.count] at h1
  simp only [T.rls,T.lw,lsN,hk1,false_and,if_false,key ts 0 (fun t ht=>ih t ht (hk t ht)) (by omega)]
theorem rcnt_occ (t:T):∀ v:Int,0 ≤ v → v + t.count ≤ 4611686018427387 → t.rcnt v=(t.occ v:Nat):=by
 induction t using T.ind with
 | h k n ts ih=>
 intro v hv hc
 simp only [T.count] at hc
 have key:∀ (ts:List T) (i a:Int),(∀ t,t ∈ ts → ∀ v:Int,0 ≤ v → v + t.count ≤ 4611686018427387 → t.rcnt v=(t.occ v:Nat)) → 0 ≤ a → a + T.countL ts ≤ 4611686018427388 → v + 1 + T.countL ts ≤ 4611686018427387 →
   T.rcntL k v i a ts=a + (T.occL k v i ts:Nat):=by
  intro ts
  induction ts with
  | nil=>intro i a _ _ _ _;simp [T.rcntL,T.occL]
  | cons t ts ih2=>
   intro i a h ha hc2 hc
   simp only [T.countL] at hc hc2
   have hbd:=binds01 k i
   have h1:=h t (by simp) (v + bindsOf k i) (by omega) (by omega)
   have h2:=occ_le t (v + bindsOf k i)
   have w1:IntKind.wrap .i64 (a + (t.occ (v + bindsOf k i):Nat))=a + (t.occ (v + bindsOf k i):Nat):=wrap_id (by omega) (by omega)
   simp only [T.rcntL,wrap_dp (k:=k) (i:=i) hv (by omega),h1,w1]
   rw [ih2 (i + 1) _ (fun u hu=>h u (by simp [hu])) (by omega) (by omega) (by omega)]
   simp only [T.occL];omega
 simp only [T.rcnt,T.occ]
 by_cases h:k=1 ∧ n=v
 ·rw [if_pos h,if_pos h,key ts 0 1 ih (by omega) (by omega) (by omega)];omega
 ·rw [if_neg h,if_neg h,key ts 0 0 ih (by omega) (by omega) (by omega)];omega
theorem rcount_eq {t:T} (hc:t.count ≤ 1048576) (n:Int):t.rcount n=if 0 ≤ n ∧ n ≤ 65535 then t.cnt n 0 else 0:=by
 by_cases h:0 ≤ n ∧ n ≤ 65535
 ·have hm:mayB n=true:=by simp [mayB,h]
  rw [if_pos h,T.rcount,if_pos hm,rcnt_occ t n h.1 (by omega),cnt_occ t n 0 h.1 (by omega) (by omega),Int.add_zero]
 ·have hm:mayB n=false:=by simp only [mayB,Bool.and_eq_false_iff,decide_eq_false_iff_not];omega
  rw [if_neg h,T.rcount,if_neg (by simp [hm])]
theorem rlower_eq {t:T} (hc:t.count ≤ 1048576) (n:Int):t.rlower n=t.lower n:=by
 by_cases h:t.check=0
 ·by_cases hm:mayB n=true
  ·have hm2:=hm
   simp only [mayB,Bool.and_eq_true,decide_eq_true_eq] at hm2
   have h1:=count_6000 hc h
   have hf:=((check_iff t).1 h).2.2
   have h3:=mapS_lw n hm2.1 hm2.2 t hf 0 (by omega) (by omega)
   rw [Int.add_zero] at h3
   have h4:=rls_lw t hf n hm2.1 (by omega)
   simp [T.rlower,T.lower,h,hm,rcount_eq hc,hm2,T.lowM,h3,h4]
  ·have hm':mayB n=false:=by simpa using hm
   simp [T.rlower,T.lower,h,hm']
 ·simp [T.rlower,T.lower,h]
end Go.Abs

namespace Go.Abs
open Go.Proofs
inductive Sh (lo:Nat) (w:World):T → Value → Prop where
 | nil (k n:Int) (a:Option Addr) (c:Nat):Sh lo w (.mk k n []) (.slice a 0 c)
 | node (k n:Int) (ts:List T) (b ty:Nat) (arr:Array Value) (xs ys:Nat → Int) (zs:Nat → Value) (hb:lo ≤ b) (hw:w.heap[b]? = some (.cells arr ty (0,0))) (hz:arr.size=ts.length * 3) (hr:ts.length * 40 ≤ room)
   (h:∀ i u,ts[i]? = some u → arr[i * 3]? = some (.int .i64 (xs i)) ∧ arr[i * 3 + 1]? = some (.int .i64 (ys i)) ∧ arr[i * 3 + 2]? = some (zs i))
   (hk:∀ i u,ts[i]? = some u → Sh lo w u (zs i)):Sh lo w (.mk k n ts) (.slice (some ⟨b,0,none⟩) ts.length ts.length)
theorem Sh.slice {lo:Nat} {w:World} {t:T} {v:Value} (h:Sh lo w t v):∃ a m c,v=.slice a m c:=by
 cases h <;> exact ⟨_,_,_,rfl⟩
theorem rd_v {g:Gh} {w:World} {x y:Value} (h:RD g w (.v x) y):y=x:=by cases h;rfl
theorem Sh.of {g:Gh} {w:World}:∀ (t:T) (v:Value),RD g w (nk (t.kids.map T.ncells)) v → Sh g.lo w t v:=by
 refine T.ind fun k n ts ih v h=>?_
 simp only [kids_mk] at h
 by_cases hts:ts=[]
 ·subst hts
  cases h with
  | sl _ _ _ a c vs a1 a2 a3 a4 a5=>exact .nil k n a c
 ·have hnk:nk (ts.map T.ncells)=.nsl 3 40 (ts.map T.ncells):=by
   cases ts with
   | nil=>exact absurd rfl hts
   | cons x l=>rfl
  rw [hnk] at h
  cases h with
  | nsl _ _ _ b ty vs a2 a3 a4 a6 a7 a8 a5=>
   obtain ⟨arr,e1,e2⟩:=a8
   rw [List.length_map] at a2 e2 ⊢
   have el:∀ (i:Nat) (u:T),ts[i]? = some u → (ts.map T.ncells)[i]? = some u.ncells:=fun i u hu=>by rw [List.getElem?_map,hu];rfl
   have cell:∀ (i j:Nat) (u:T) (d:Cell),ts[i]? = some u → u.ncells[j]? = some d → arr[i * 3 + j]? = some (vs i j) ∧ RD g w d (vs i j):=fun i j u d hu hd=>by
    have h1:=(a4 i j _ d (el i u hu) hd).2
    rw [cell_blk e1] at h1
    exact ⟨h1,a5 i j _ d (el i u hu) hd⟩
   have hint:∀ (i j:Nat) (u:T) (m:Int),ts[i]? = some u → u.ncells[j]? = some (.v (.int .i64 m)) → arr[i * 3 + j]? = some (.int .i64 m):=fun i j u m hu hd=>by
    obtain ⟨h1,h2⟩:=cell i j u _ hu hd
    rw [rd_v h2] at h1
    exact h1
   refine .node k n ts b ty arr (fun i=>((ts[i]?).map T.kind).getD 0) (fun i=>((ts[i]?).map T.val).getD 0) (fun i=>vs i 2) a6 e1 e2 a2 (fun i u hu=>⟨?_,?_,?_⟩) fun i u hu=>?_
   ·have:=hint i 0 u u.kind hu (by rw [ncells_eq];rfl)
    simpa [hu] using this
   ·have:=hint i 1 u u.val hu (by rw [ncells_eq];rfl)
    simpa [hu] using this
   ·exact (cell i 2 u (nk (u.kids.map T.ncells)) hu (by rw [ncells_eq];rfl)).1
   ·exact ih u (List.mem_of_getElem? hu) _ (cell i 2 u (nk (u.kids.map T.ncells)) hu (by rw [ncells_eq];rfl)).2
structure IntCh (lo:Nat) (w w':World):Prop where
 os:w'.os=w.os
 tape:w'.tape=w.tape
 out:w'.output=w.output
 grow:w.heap.size ≤ w'.heap.size
 low:∀ b,b < lo → w'.heap[b]? = w.heap[b]?
 cells:∀ (b:Nat) (arr:Array Value) (ty:Nat),w.heap[b]? = some (.cells arr ty (0,0)) → ∃ arr':Array Value,w'.heap[b]? = some (.cells arr' ty (0,0)) ∧ arr'.size=arr.size ∧
  ∀ (j:Nat) v,arr[j]? = some v → arr'[j]? = some v ∨ ∃ x x':Int,v=.int .i64 x ∧ arr'[j]? = some (.int .i64 x')
theorem IntCh.refl (lo:Nat) (w:World):IntCh lo w w:=⟨rfl,rfl,rfl,Nat.le_refl _,fun _ _=>rfl,fun b arr ty h=>⟨arr,h,rfl,fun j v hv=>.inl hv⟩⟩
theorem IntCh.trans {lo:Nat} {w w1 w2:World} (h:IntCh lo w w1) (k:IntCh lo w1 w2):IntCh lo w w2:=
 ⟨k.os.trans h.os,k.tape.trans h.tape,k.out.trans h.out,Nat.le_trans h.grow k.grow,fun b hb=>(k.low b hb).trans (h.low b hb),fun b arr ty hb=>by
  obtain ⟨arr1,e1,e2,e3⟩:=h.cells b arr ty hb
  obtain ⟨arr2,f1,f2,f3⟩:=k.cells b arr1 ty e1
  refine ⟨arr2,f1,f2.trans e2,fun j v hv=>?_⟩
  rcases e3 j v hv with h1 | ⟨x,x',rfl,h1⟩
  ·exact f3 j v h1
  ·rcases f3 j _ h1 with h2 | ⟨y,y',h3,h2⟩
   ·exact .inr ⟨x,x',rfl,h2⟩
   ·exact .inr ⟨x,y',rfl,h2⟩⟩
theorem Sh.mono {lo:Nat} {w w':World} (hc:IntCh lo w w') {t:T} {v:Value} (h:Sh lo w t v):Sh lo w' t v:=by
 induction h with
 | nil k n a c=>exact .nil k n a c
 | node k n ts b ty arr xs ys zs hb hw hz hr h hk ih=>
  obtain ⟨arr',e1,e2,e3⟩:=hc.cells b arr ty hw
  have num:∀ (j:Nat) x,arr[j]? = some (.int .i64 x) → ∃ x',arr'[j]? = some (.int .i64 x'):=fun j x hx=>by
   rcases e3 j _ hx with h1 | ⟨_,x',_,h1⟩
   ·exact ⟨x,h1⟩
   ·exact ⟨x',h1⟩
  refine .node k n ts b ty arr' (fun i=>match arr'[i * 3]? with | some (.int .i64 x)=>x | _=>0) (fun i=>match arr'[i * 3 + 1]? with | some (.int .i64 x)=>x | _=>0) zs hb e1 (e2.trans hz) hr (fun i u hu=>?_) ih
  obtain ⟨h1,h2,h3⟩:=h i u hu
  obtain ⟨x',hx⟩:=num _ _ h1
  obtain ⟨y',hy⟩:=num _ _ h2
  refine ⟨by simp only [hx],by simp only [hy],?_⟩
  rcases e3 _ _ h3 with h4 | ⟨x,x',h4,_⟩
  ·exact h4
  ·obtain ⟨a,m,c,h5⟩:=(hk i u hu).slice
   rw [h4] at h5;cases h5
def spG (b1 bK:Nat) (v:Value):Gh:=⟨fun _ _=>False,fun K=>if K=57001 then b1 else bK,fun _=>v,fun _=>0,0⟩
def spE (len:Nat) (xs ys:Nat → Int) (zs:Nat → Value):List (List Cell):=(List.range len).map fun i=>[.v (.int .i64 (xs i)),.v (.int .i64 (ys i)),.v (zs i)]
def spSl (i:Nat):Nat → AV:=fun s=>if s=1 then .c (.ref 57001 0 0) else if s=2 then .c (.v (.int .i64 i)) else .c .junk
def spOb (k n:Int) (ty:Nat) (es:List (List Cell)):Nat → Option Obj:=fun K=>if K=57001 then some (.box 24 [.v (.int .i64 k),.v (.int .i64 n),.own 57100 0]) else if K=57100 then some (.mrow ty 3 40 es) else none
structure SpQ (k n:Int) (ty:Nat) (es:List (List Cell)) (i:Nat) (σ:St):Prop where
 s1:σ.sl 1=.c (.ref 57001 0 0)
 s2:σ.sl 2=.c (.v (.int .i64 i))
 oB:σ.ob 57001=some (.box 24 [.v (.int .i64 k),.v (.int .i64 n),.own 57100 0])
 oK:σ.ob 57100=some (.mrow ty 3 40 es)
 gB:σ.tg 57001=0
 gK:σ.tg 57100=0
structure SpM (w:World) (b1 bK ty len:Nat) (k n:Int) (xs ys:Nat → Int) (zs:Nat → Value):Prop where
 box:w.heap[b1]? = some (.cells #[.int .i64 k,.int .i64 n,.slice (some ⟨bK,0,none⟩) len len] 24 (0,0))
 row:∃ arr,w.heap[bK]? = some (.cells arr ty (0,0)) ∧ arr.size=len * 3 ∧ ∀ i,i < len → arr[i * 3]? = some (.int .i64 (xs i)) ∧ arr[i * 3 + 1]? = some (.int .i64 (ys i)) ∧ arr[i * 3 + 2]? = some (zs i)
structure SpA (i:Nat) (b1:Nat) (a:Act):Prop where
 size:a.tmps.size=28
 defs:a.defers=[]
 t1:a.tmps.getD 1 undef=.pointer (some ⟨b1,0,none⟩)
 t2:a.tmps.getD 2 undef=.int .i64 i
def spI (b1 bK:Nat) (v:Value) (w:World):Init:=⟨spG b1 bK v,w,fun b=>b=b1 ∨ b=bK,[]⟩
theorem spE_len (len:Nat) (xs ys:Nat → Int) (zs:Nat → Value):(spE len xs ys zs).length=len:=by simp [spE]
theorem spE_get {len i:Nat} {xs ys:Nat → Int} {zs:Nat → Value} (hi:i < len):(spE len xs ys zs)[i]? = some [.v (.int .i64 (xs i)),.v (.int .i64 (ys i)),.v (zs i)]:=by simp [spE,hi]
theorem sp_rel {w:World} {b1 bK ty len i:Nat} {k n:Int} {xs ys:Nat → Int} {zs:Nat → Value} {a:Act} (hM:SpM w b1 bK ty len k n xs ys zs) (hA:SpA i b1 a) (hne:b1 ≠ bK) (hr:len * 40 ≤ room) (hz:∀ i,i < len → (zs i).oneCell'=true) :
  Rel (spI b1 bK (.slice (some ⟨bK,0,none⟩) len len) w) 28 ⟨spSl i,spOb k n ty (spE len xs ys zs),fun _=>0⟩ (spG b1 bK (.slice (some ⟨bK,0,none⟩) len len)) a w:=by
 have two:∀ K q,spOb k n ty (spE len xs ys zs) K=some q → (K=57001 ∧ q=.box 24 [.v (.int .i64 k),.v (.int .i64 n),.own 57100 0]) ∨ (K=57100 ∧ q=.mrow ty 3 40 (spE len xs ys zs)):=fun K q h=>by
  simp only [spOb] at h
  split at h
  ·rename_i e;cases h;exact .inl ⟨e,rfl⟩
  ·split at h
   ·rename_i e;cases h;exact .inr ⟨e,rfl⟩
   ·cases h
 obtain ⟨hbox,arr,e1,e2,e3⟩:=hM
 exact
  {size:=hA.size,tags:=fun _=>rfl,defs:=hA.defs,wok:=fun b o h=>h.elim,os:=rfl,tape:=rfl,out:=rfl,grow:=Nat.le_refl _
   frame:=fun _ _ _=>⟨rfl,fun _=>Iff.rfl⟩,kp:=Kp.refl _ w,le:=Gh.Le.refl _,los:=⟨Nat.zero_le _,fun _ _=>Nat.zero_le _⟩
   slots:=fun s=>by
    simp only [spSl]
    by_cases h1:s=1
    ·rw [if_pos h1,h1,hA.t1];exact fun _=>⟨rfl,Nat.le_refl _,fun _=>rfl⟩
    ·by_cases h2:s=2
     ·rw [if_neg h1,if_pos h2,h2,hA.t2];exact fun _=>.v _ rfl
     ·rw [if_neg h1,if_neg h2];exact fun h=>absurd rfl h
   obs:=fun K q h=>by
    rcases two K q h with ⟨rfl,rfl⟩ | ⟨rfl,rfl⟩
    ·exact ⟨_,hbox,⟨.v _ rfl,.v _ rfl,⟨rfl,Nat.le_refl _,fun _=>⟨rfl,_,_,_,rfl⟩⟩,trivial⟩,fun o h=>h⟩
    ·refine ⟨arr,len,by rw [spE_len];rfl,spE_len _ _ _ _,e1,e2,by rw [spE_len];exact hr,fun l hl=>?_,fun i j l d h1 h2=>?_,fun o h=>h⟩
     ·simp only [spE,List.mem_map] at hl
      obtain ⟨i,_,rfl⟩:=hl;rfl
     ·have hi:i < len:=by have:=(List.getElem?_eq_some_iff.1 h1).1;rwa [spE_len] at this
      rw [spE_get hi] at h1
      cases h1
      obtain ⟨f1,f2,f3⟩:=e3 i hi
      match j with
      | 0=>simp at h2;subst h2;exact ⟨_,f1,.v _ rfl⟩
      | 1=>simp at h2;subst h2;exact ⟨_,f2,.v _ rfl⟩
      | 2=>simp at h2;subst h2;exact ⟨_,f3,.v _ (hz i hi)⟩
      | j + 3=>simp at h2
   sep:=fun K K' q q' h h' _ _ hb=>by
    rcases two K q h with ⟨rfl,rfl⟩ | ⟨rfl,rfl⟩ <;> rcases two K' q' h' with ⟨rfl,rfl⟩ | ⟨rfl,rfl⟩
    ·rfl
    ·exact absurd hb hne
    ·exact absurd hb.symm hne
    ·rfl
   loc:=fun K q h _=>by
    rcases two K q h with ⟨rfl,rfl⟩ | ⟨rfl,rfl⟩
    ·exact .inl (.inl rfl)
    ·exact .inl (.inr rfl) }
theorem sp_back {w w':World} {b1 bK ty len i:Nat} {k n:Int} {xs ys:Nat → Int} {zs:Nat → Value} {σ:St} {g:Gh} {a:Act} (hR:Rel (spI b1 bK (.slice (some ⟨bK,0,none⟩) len len) w) 28 σ g a w') (hQ:SpQ k n ty (spE len xs ys zs) i σ) :
  SpM w' b1 bK ty len k n xs ys zs ∧ SpA i b1 a ∧ (∀ b,b < w.heap.size → b ≠ b1 → b ≠ bK → w'.heap[b]? = w.heap[b]?):=by
 have same:∀ K,σ.tg K=0 → g.blk K=(spG b1 bK (.slice (some ⟨bK,0,none⟩) len len)).blk K ∧ g.rv K=.slice (some ⟨bK,0,none⟩) len len:=fun K hK=>by
  rcases hR.le.le K with h | h
  ·have:=hR.tags K
   simp only [spI,spG] at h
   omega
  ·exact h.2
 obtain ⟨B1,B2⟩:=same 57001 hQ.gB
 obtain ⟨K1,K2⟩:=same 57100 hQ.gK
 have B1:g.blk 57001=b1:=B1
 have K1:g.blk 57100=bK:=K1
 obtain ⟨vs,f1,f2,_⟩:=hR.obs 57001 _ hQ.oB
 obtain ⟨arr,c,h1,h2,h3,h4,h5,h6,h7,_⟩:=hR.obs 57100 _ hQ.oK
 rw [spE_len] at h2
 subst h2
 have hvs:vs=#[.int .i64 k,.int .i64 n,.slice (some ⟨bK,0,none⟩) len len]:=by
  match hv:vs.toList,f2 with
  | [x,y,z],⟨r1,r2,r3,_⟩=>
   cases r1;cases r2
   have:=(r3.2.2 (by rw [hR.tags,hQ.gK])).1
   rw [K2] at this
   rw [← Array.toArray_toList (xs:=vs),hv,this]
  | [],f=>exact f.elim
  | [_],f=>exact f.2.elim
  | [_,_],f=>exact f.2.2.elim
  | _ :: _ :: _ :: _ :: _,f=>exact f.2.2.2.elim
 subst hvs
 refine ⟨⟨by rw [← B1];exact f1,arr,by rw [← K1];exact h3,h4,fun j hj=>?_⟩,⟨hR.size,hR.defs,?_,?_⟩,fun b hb n1 n2=>?_⟩
 ·have hg:=spE_get (xs:=xs) (ys:=ys) (zs:=zs) hj
  refine ⟨?_,?_,?_⟩
  ·obtain ⟨x,q1,q2⟩:=h7 j 0 _ _ hg rfl;cases q2;exact q1
  ·obtain ⟨x,q1,q2⟩:=h7 j 1 _ _ hg rfl;cases q2;exact q1
  ·obtain ⟨x,q1,q2⟩:=h7 j 2 _ _ hg rfl;cases q2;exact q1
 ·have:=hR.slots 1
  rw [hQ.s1] at this
  have:=(this (by simp)).2.2 (by rw [hR.tags,hQ.gB])
  rw [this];simp [ptr,B1]
 ·have:=hR.slots 2
  rw [hQ.s2] at this
  exact RV2_v this
 ·exact (hR.frame b hb (by rintro (h | h);exact n1 h;exact n2 h)).1
theorem sp_ch {lo:Nat} {w w':World} {b1 bK ty len:Nat} {k n:Int} {xs ys ys':Nat → Int} {zs:Nat → Value} (h:SpM w b1 bK ty len k n xs ys zs) (h':SpM w' b1 bK ty len k n xs ys' zs) (hl1:lo ≤ b1) (hlK:lo ≤ bK)
  (hf:∀ b,b < w.heap.size → b ≠ b1 → b ≠ bK → w'.heap[b]? = w.heap[b]?) (o1:w'.os=w.os) (o2:w'.tape=w.tape) (o3:w'.output=w.output) (hg:w.heap.size ≤ w'.heap.size):IntCh lo w w':=by
 have hbK:bK < w.heap.size:=by obtain ⟨arr,e,_⟩:=h.row;exact (Array.getElem?_eq_some_iff.1 e).1
 refine ⟨o1,o2,o3,hg,fun b hb=>hf b (by omega) (by omega) (by omega),fun b arr ty' hb=>?_⟩
 have hbs:b < w.heap.size:=(Array.getElem?_eq_some_iff.1 hb).1
 by_cases h1:b=b1
 ·subst h1
  rw [h.box] at hb;cases hb
  exact ⟨_,h'.box,rfl,fun j v hv=>.inl hv⟩
 ·by_cases h2:b=bK
  ·subst h2
   obtain ⟨arr1,e1,e2,e3⟩:=h.row
   obtain ⟨arr2,f1,f2,f3⟩:=h'.row
   rw [e1] at hb;cases hb
   refine ⟨arr2,f1,f2.trans e2.symm,fun j v hv=>?_⟩
   have hj:=(Array.getElem?_eq_some_iff.1 hv).1
   rw [e2] at hj
   obtain ⟨p1,p2,p3⟩:=e3 (j / 3) (by omega)
   obtain ⟨q1,q2,q3⟩:=f3 (j / 3) (by omega)
   have hm:j % 3=0 ∨ j % 3=1 ∨ j % 3=2:=by omega
   rcases hm with hm | hm | hm
   ·have e:j / 3 * 3=j:=by omega
    rw [e] at p1 q1
    rw [p1] at hv;cases hv
    exact .inl q1
   ·have e:j / 3 * 3 + 1=j:=by omega
    rw [e] at p2 q2
    rw [p2] at hv;cases hv
    exact .inr ⟨_,_,rfl,q2⟩
   ·have e:j / 3 * 3 + 2=j:=by omega
    rw [e] at p3 q3
    rw [p3] at hv;cases hv
    exact .inl q3
  ·exact ⟨arr,by rw [hf b hbs h1 h2];exact hb,rfl,fun j v hv=>.inl hv⟩
theorem opd_tN {I:Init} {n s:Nat} {σ:St} {g:Gh} {a:Act} {w:World} {x:AV} (hR:Rel I n σ g a w) (hs:σ.sl s=x):RV g w x (a.tmps.getD s undef):=by rw [← hs];exact hR.slots s
theorem sp_after {lo:Nat} {w w':World} {b1 bK ty len:Nat} {k n:Int} {xs ys:Nat → Int} {zs:Nat → Value} (hc:IntCh lo w w') (h:SpM w b1 bK ty len k n xs ys zs) (hz:∀ j,j < len → ∃ a m c,zs j=.slice a m c) :
  ∃ k' n' xs' ys',SpM w' b1 bK ty len k' n' xs' ys' zs:=by
 obtain ⟨arr1,e1,e2,e3⟩:=hc.cells _ _ _ h.box
 obtain ⟨arr,f1,f2,f3⟩:=h.row
 obtain ⟨arr2,g1,g2,g3⟩:=hc.cells _ _ _ f1
 have num:∀ (ar ar':Array Value),(∀ (j:Nat) v,ar[j]? = some v → ar'[j]? = some v ∨ ∃ x x':Int,v=.int .i64 x ∧ ar'[j]? = some (.int .i64 x')) → ∀ (j:Nat) x,ar[j]? = some (.int .i64 x) → ∃ x',ar'[j]? = some (.int .i64 x'):=fun ar ar' hh j x hx=>by
  rcases hh j _ hx with h1 | ⟨_,x',_,h1⟩
  ·exact ⟨x,h1⟩
  ·exact ⟨x',h1⟩
 obtain ⟨k',hk⟩:=num _ _ e3 0 k rfl
 obtain ⟨n',hn⟩:=num _ _ e3 1 n rfl
 have h2:arr1[2]? = some (.slice (some ⟨bK,0,none⟩) len len):=by
  rcases e3 2 _ rfl with h | ⟨x,x',h,_⟩
  ·exact h
  ·cases h
 have harr:arr1=#[.int .i64 k',.int .i64 n',.slice (some ⟨bK,0,none⟩) len len]:=by
  have hz:arr1.size=3:=e2
  apply Array.ext'
  apply List.ext_getElem?
  intro j
  match j with
  | 0=>simpa using hk
  | 1=>simpa using hn
  | 2=>simpa using h2
  | j + 3=>rw [List.getElem?_eq_none (by simp;omega)];simp
 subst harr
 refine ⟨k',n',(fun i=>match arr2[i * 3]? with | some (.int .i64 x)=>x | _=>0),(fun i=>match arr2[i * 3 + 1]? with | some (.int .i64 x)=>x | _=>0),e1,arr2,g1,g2.trans f2,fun i hi=>?_⟩
 obtain ⟨p1,p2,p3⟩:=f3 i hi
 obtain ⟨x',hx⟩:=num _ _ g3 _ _ p1
 obtain ⟨y',hy⟩:=num _ _ g3 _ _ p2
 refine ⟨by simp only [hx],by simp only [hy],?_⟩
 rcases g3 _ _ p3 with h4 | ⟨x,x',h4,_⟩
 ·exact h4
 ·obtain ⟨a,m,c,h5⟩:=hz i hi
  rw [h4] at h5;cases h5
end Go.Abs

namespace Go.Abs
open Go.Proofs
variable {P:Program} {I:Init} {n base:Nat} {σ σ':St} {g g':Gh} {a:Act} {w w':World}
theorem ok_seq {x y:SCode} {c:Code} (h:okCode P n (.seq x y) c=true) (hx:isFrz x=false) (hy:isFrz y=false):∃ x' y',c=.seq x' y' ∧ okCode P n x x'=true ∧ okCode P n y y'=true:=by
 simp only [okCode,hx,hy,Bool.false_eq_true,if_false] at h
 split at h
 ·rename_i x' y'
  simp only [Bool.and_eq_true] at h
  exact ⟨x',y',rfl,h.1,h.2⟩
 ·cases h
theorem ok_block {id:Nat} {x:SCode} {c:Code} (h:okCode P n (.block id x) c=true):∃ x',c=.block id x' ∧ okCode P n x x'=true:=by
 simp only [okCode] at h
 split at h
 ·rename_i id' x'
  simp only [Bool.and_eq_true,decide_eq_true_eq] at h
  obtain ⟨rfl,h⟩:=h
  exact ⟨x',rfl,h⟩
 ·cases h
theorem ok_loop {x:SCode} {c:Code} (h:okCode P n (.loop x) c=true):∃ x',c=.loop x' ∧ okCode P n x x'=true:=by
 simp only [okCode] at h
 split at h
 ·exact ⟨_,rfl,h⟩
 ·cases h
theorem ok_reg {l:List SO} {c:Code} (h:okCode P n (.reg l) c=true):∃ id ops,c=.region id ops false ∧ okOps P n ops ops.toList l=true:=by
 simp only [okCode] at h
 split at h
 ·exact ⟨_,_,rfl,h⟩
 ·cases h
def pre:List SCode → SCode → SCode
 | [],y=>y
 | x :: l,y=>.seq x (pre l y)
theorem pre_nf {y:SCode} (hy:isFrz y=false):∀ l:List SCode,isFrz (pre l y)=false
 | []=>hy
 | _ :: _=>rfl
theorem W_pre {y:SCode} {Q:SEx → St → Prop} {R:Exit → Act → World → Prop} (hy:isFrz y=false):∀ (l:List SCode) {σ:St} {g:Gh} {a:Act} {w:World} {c:Code},(∀ x,x ∈ l → isFrz x=false) → okCode P n (pre l y) c=true → W P base (pre l .skip) σ Q →
  (∀ σ' g a w y',Q .normal σ' → Rel I n σ' g a w → okCode P n y y'=true → y'.wp P R a w) → (∀ e σ' g a w,e ≠ .normal → Q e σ' → Rel I n σ' g a w → R e.up a w) → Rel I n σ g a w → c.wp P R a w
 | [],σ,g,a,w,c,_,hok,hW,hn,_,hR=>hn σ g a w c hW hR hok
 | x :: l,σ,g,a,w,c,hl,hok,hW,hn,he,hR=>by
  obtain ⟨x',y',rfl,h1,h2⟩:=ok_seq hok (hl x (by simp)) (pre_nf hy l)
  refine wp_seq (W_sound (base:=base) x x' σ (onSeq (fun σ'=>W P base (pre l .skip) σ' Q) Q) _ h1 hW (fun e σ' g a w hq hR'=>?_) g a w hR)
  cases e with
  | normal=>exact W_pre hy l (fun x hx=>hl x (by simp [hx])) h2 hq hn he hR'
  | exit id=>exact he _ σ' g a w (by simp) hq hR'
  | ret=>exact he _ σ' g a w (by simp) hq hR'
theorem text3 {ops:Array Oper} {sos:List SO} {Q:Exit → Act → World → Prop} {K:St → Prop} {rest:List Nat} (hok:okOps P n ops ops.toList sos=true) (hK:∀ σ g a w,K σ → Rel I n σ g a w → wpOps P ops Q rest a w) :
  ∀ {l post:List SO} {pre:List SO} {σ:St} {g a w},sos=pre ++ l ++ post → WOps P base l σ K → Rel I n σ g a w → wpOps P ops Q (List.range' pre.length l.length ++ rest) a w
 | [],post,pre,σ,g,a,w,_,h,hR=>by simpa using hK _ _ _ _ h hR
 | so :: l,post,pre,σ,g,a,w,hs,h,hR=>by
  obtain ⟨e,h1,h2⟩:=h
  rw [List.length_cons,List.range'_succ,List.cons_append,wpOps_cons]
  refine one_op hR hok (by rw [hs];simp) h1 fun a' w' g' hR'=>?_
  have hcall:∀ d,so.dst=some d → so.op.isCall=true → RealA e.val:=fun d hd hc=>by
   have:=hR'.slots d
   rw [hd] at this
   simp only [St.ap,upd,if_true] at this
   exact ⟨_,_,_,this⟩
  have:=text3 (pre:=pre ++ [so]) hok hK (l:=l) (post:=post) (by rw [hs];simp) (h2 hcall) hR'
  simpa using this
theorem call_op {ops:Array Oper} {sos:List SO} {i f d s:Nat} {Q:Exit → Act → World → Prop} {K:Act → World → Prop} (hok:okOps P n ops ops.toList sos=true) (hi:sos[i]? = some ⟨some d,none,.call (.f f) [.t s]⟩) (hent:EntersF P f)
  (hc:Calls P f #[a.tmps.getD s undef] w fun e w'=>∃ v,e=.returned v ∧ K (a.put (some d) v) w'):wpOp P ops Q i K a w:=by
 obtain ⟨o,ho,hso⟩:=okOps_get hok i _ hi
 have ho:ops[i]? = some o:=by simpa using ho
 simp only [okSO,Bool.and_eq_true,decide_eq_true_eq] at hso
 obtain ⟨⟨⟨hd,hdn⟩,hg⟩,hop⟩:=hso
 have hgn:o.guard=none:=by
  split at hg
  ·assumption
  ·rename_i h;cases h
  ·cases hg
 have hoc:okCall P o.op (.call (.f f) [.t s])=true:=by
  rcases Bool.or_eq_true _ _ ▸ hop with h1 | h1
  ·unfold okOp at h1
   cases eo:o.op <;> rw [eo] at h1 <;> simp only [reduceCtorEq,Bool.false_eq_true] at h1
  ·exact h1
 unfold okCall at hoc
 split at hoc
 ·rename_i x args ats f' xs' eop eso
  cases eso
  simp only [Bool.and_eq_true] at hoc
  have hx:x=.func f ∨ ∃ v,x=.const v:=by
   have h1:=hoc.1
   cases x <;> simp [okA] at h1
   ·subst h1;exact .inl rfl
  have hx:x=.func f:=by
   rcases hx with h | ⟨v,rfl⟩
   ·exact h
   ·have h1:=hoc.1
    simp [okA] at h1
  subst hx
  have hargs:args=#[.tmp s]:=by
   match h:args.toList,hoc.2 with
   | [y],h2=>
    simp only [okL,Bool.and_eq_true] at h2
    have h3:=h2.1
    cases y <;> simp [okA] at h3
    subst h3
    rw [← Array.toArray_toList (xs:=args),h]
   | [],h2=>simp [okL] at h2
   | _ :: _ :: _,h2=>simp [okL] at h2
  subst hargs
  unfold wpOp
  rw [ho]
  simp only [Region.wanted,hgn,if_true]
  refine .inl ?_
  have hrun:(execOp a.eval o).run P w=.ok (.enter f #[a.tmps.getD s undef]) w:=by
   have:=hent #[a.tmps.getD s undef] w
   have e1:a.eval (.tmp s)=a.tmps.getD s undef:=rfl
   have e2:a.eval (.func f)=.func (.func f) #[] #[]:=rfl
   simp only [Array.getD_eq_getD_getElem?] at this e1 ⊢
   simp [execOp,eop,resolve,e2,Deferred.ofValue,invoke,this,e1]
  unfold Oper.wp
  rw [hrun]
  refine Calls.mono hc ?_
  rintro e w' ⟨v,rfl,hk⟩
  rw [hd]
  exact hk
 ·rename_i eso;cases eso
 ·cases hoc
end Go.Abs

namespace Go.Abs
open Go.Proofs
def h57:SCode:=.seq (.reg
    [⟨some 3,none,.mv (.t 2)⟩,
     ⟨some 4,none,.fad 24 2 2 (.t 1)⟩,
     ⟨some 5,none,.ld1 22 (.t 4)⟩,
     ⟨some 6,none,.len 22 (.t 5)⟩,
     ⟨some 7,none,.bin .lss (.t 3) (.t 6)⟩])
  (.cond (.t 7)
   (.skip)
   (.exit 0))
def m57:List SO:=[⟨some 10,none,.fad 24 2 2 (.t 1)⟩,
      ⟨some 11,none,.ld1 22 (.t 10)⟩,
      ⟨some 12,none,.mv (.t 2)⟩,
      ⟨some 13,none,.iad 24 3 (.t 11) (.t 12)⟩,
      ⟨some 14,none,.ldn 24 3 (.t 13)⟩]
def k57:SO:=⟨some 15,none,.call (.f 13) [.t 14]⟩
def d57:SCode:=.dreg [0,1,0,0,8,0,56,120,248,504,1023,2047,4095]
    [⟨some 16,none,.fad 24 2 2 (.t 1)⟩,
     ⟨some 17,none,.ld1 22 (.t 16)⟩,
     ⟨some 18,none,.mv (.t 2)⟩,
     ⟨some 19,none,.fad 24 2 2 (.t 1)⟩,
     ⟨some 20,none,.ld1 22 (.t 19)⟩,
     ⟨some 21,none,.mv (.t 2)⟩,
     ⟨some 22,none,.iad 24 3 (.t 20) (.t 21)⟩,
     ⟨some 23,none,.fad 24 1 1 (.t 22)⟩,
     ⟨some 24,none,.ld1 3 (.t 23)⟩,
     ⟨some 25,none,.bin .add (.t 24) (.k (.int .i64 77))⟩,
     ⟨some 26,none,.iad 24 3 (.t 17) (.t 18)⟩,
     ⟨some 27,none,.fad 24 1 1 (.t 26)⟩,
     ⟨none,none,.st1 3 (.t 27) (.t 25)⟩]
def e57:SCode:=.reg
  [⟨some 8,none,.mv (.t 2)⟩,
   ⟨some 9,none,.bin .add (.t 8) (.k (.int .i64 1))⟩,
   ⟨some 2,none,.mv (.t 9)⟩]
def s57:List SCode:=[.reg
   [⟨some 1,none,.box 24 (.t 0)⟩],.reg
   [⟨some 2,none,.mv (.k (.int .i64 0))⟩]]
theorem c57b0_eq:c57b0=.seq h57 (.seq (.block 1 (.seq (.reg (m57 ++ [k57])) d57)) e57):=rfl
theorem c57_eq:c57=pre s57 (.block 0 (.loop c57b0)):=rfl
def Qh57 (k n:Int) (ty:Nat) (es:List (List Cell)) (i:Nat):SEx → St → Prop
 | .normal,σ=>i < es.length ∧ SpQ k n ty es i σ
 | .exit id,σ=>id=0 ∧ ¬ i < es.length ∧ SpQ k n ty es i σ
 | .ret,_=>False
@[simp] theorem Qh57_n {k n:Int} {ty:Nat} {es:List (List Cell)} {i:Nat} {σ:St}:Qh57 k n ty es i .normal σ=(i < es.length ∧ SpQ k n ty es i σ):=rfl
@[simp] theorem Qh57_e {k n:Int} {ty:Nat} {es:List (List Cell)} {i id:Nat} {σ:St}:Qh57 k n ty es i (.exit id) σ=(id=0 ∧ ¬ i < es.length ∧ SpQ k n ty es i σ):=rfl
theorem sp_head {k n:Int} {ty i:Nat} {es:List (List Cell)} {σ:St} (hq:SpQ k n ty es i σ):W Try.prog 57000 h57 σ (Qh57 k n ty es i):=by
 obtain ⟨s1,s2,oB,oK,gB,gK⟩:=hq
 unfold h57
 by_cases hi:i < es.length
 ·simp [s1,s2,oB,oK,gB,gK,hi]
  exact ⟨by simp [s1],by simp [s2],by simp [oB],by simp [oK],by simp [gB],by simp [gK]⟩
 ·simp [s1,s2,oB,oK,gB,gK,hi]
  exact ⟨by simp [s1],by simp [s2],by simp [oB],by simp [oK],by simp [gB],by simp [gK]⟩
theorem sp_mid {k n:Int} {ty i len:Nat} {xs ys:Nat → Int} {zs:Nat → Value} {σ:St} (hi:i < len) (hq:SpQ k n ty (spE len xs ys zs) i σ) :
  WOps Try.prog 57000 m57 σ fun σ=>SpQ k n ty (spE len xs ys zs) i σ ∧ σ.sl 14=.agg [.v (.int .i64 (xs i)),.v (.int .i64 (ys i)),.v (zs i)]:=by
 obtain ⟨s1,s2,oB,oK,gB,gK⟩:=hq
 have hg:=spE_get (xs:=xs) (ys:=ys) (zs:=zs) hi
 obtain ⟨_,hg'⟩:=getE hg
 have hl:=spE_len len xs ys zs
 unfold m57
 simp [s1,s2,oB,oK,gB,gK,hi,hg,hg',hl]
 exact ⟨by simp [s1],by simp [s2],by simp [oB],by simp [oK],by simp [gB],by simp [gK]⟩
theorem sp_set {len i:Nat} {xs ys:Nat → Int} {zs:Nat → Value} (y:Int) (hi:i < len):(spE len xs ys zs).set i [.v (.int .i64 (xs i)),.v (.int .i64 y),.v (zs i)]=spE len xs (fun j=>if j=i then y else ys j) zs:=by
 apply List.ext_getElem?
 intro j
 rw [List.getElem?_set,spE_len]
 by_cases h:i=j
 ·subst h
  rw [if_pos rfl,if_pos hi,spE_get hi];simp
 ·rw [if_neg h]
  have h':¬ j=i:=fun e=>h e.symm
  by_cases hj:j < len
  ·rw [spE_get hj,spE_get hj];simp [h']
  ·rw [List.getElem?_eq_none (by rw [spE_len];omega),List.getElem?_eq_none (by rw [spE_len];omega)]
theorem sp_draw {k n:Int} {ty i len:Nat} {xs ys:Nat → Int} {zs:Nat → Value} {σ:St} (hi:i < len) (hq:SpQ k n ty (spE len xs ys zs) i σ) :
  W Try.prog 57000 d57 σ (only (SpQ k n ty (spE len xs (fun j=>if j=i then IntKind.wrap .i64 (ys i + 77) else ys j) zs) i)):=by
 obtain ⟨s1,s2,oB,oK,gB,gK⟩:=hq
 have hg:=spE_get (xs:=xs) (ys:=ys) (zs:=zs) hi
 obtain ⟨_,hg'⟩:=getE hg
 have hl:=spE_len len xs ys zs
 have hs:=sp_set (xs:=xs) (ys:=ys) (zs:=zs) (IntKind.wrap .i64 (ys i + 77)) hi
 unfold d57
 refine W_dregA ?_
 simp [s1,s2,oB,oK,gB,gK,hi,hg,hg',hl]
 refine ⟨rfl,realC_n ?_⟩
 simp
 exact ⟨by simp [s1],by simp [s2],by simp [oB],by simp [hs],by simp [gB],by simp [gK]⟩
theorem sp_inc {k n:Int} {ty i:Nat} {es:List (List Cell)} {σ:St} (hi:i < 4611686018427387904) (hq:SpQ k n ty es i σ):W Try.prog 57000 e57 σ (only (SpQ k n ty es (i + 1))):=by
 obtain ⟨s1,s2,oB,oK,gB,gK⟩:=hq
 have w1:=wrap_succ (i:=i) (by omega)
 unfold e57
 simp [s1,s2,w1]
 exact ⟨by simp [s1],by simp,by simp [oB],by simp [oK],by simp [gB],by simp [gK]⟩
def Qs57 (a:Cell) (b c:Cell):SEx → St → Prop:=only fun σ=>σ.sl 1=.c (.ref 57001 (σ.tg 57001) 0) ∧ σ.sl 2=.c (.v (.int .i64 0)) ∧ σ.ob 57001=some (.box 24 [a,b,c])
theorem sp_start {k n:Int} {v:Value} {σ:St} (s0:σ.sl 0=.agg [.v (.int .i64 k),.v (.int .i64 n),.v v]):W Try.prog 57000 (pre s57 .skip) σ (Qs57 (.v (.int .i64 k)) (.v (.int .i64 n)) (.v v)):=by
 unfold Qs57 s57 pre pre pre
 simp [s0]
theorem fn57 (k n:Int):Fn Try.prog 13 [.agg [.v (.int .i64 k),.v (.int .i64 n),.sl 3 40 []]] (.tup []):=by
 refine fn_of (base:=57000) ok57 rfl fun σ h0 hr=>?_
 have s0:=h0 0
 rw [slots0] at s0
 clear h0 hr
 unfold c57
 simp [s0]
 refine W_loop (fun _ σ=>σ.sl 1=.c (.ref 57001 (σ.tg 57001) 0) ∧ σ.sl 2=.c (.v (.int .i64 0)) ∧ σ.ob 57001=some (.box 24 [.v (.int .i64 k),.v (.int .i64 n),.sl 3 40 []])) 0 (by simp) ?_
 rintro m σ ⟨q1,q2,q3⟩
 unfold c57b0
 simp [q1,q2,q3,r57]
end Go.Abs
