/- THIS TEXT TELLS SOME FUNCTIONS OF THE PROGRAM IN THE CALCULUS, PROVES BY THE KERNEL THAT WHAT IS TOLD IS THE LOADED CODE, AND PROVES WHAT THEY COMPUTE: for every argument that is told; the conditions stand in each theorem. -/
import Derived.KernelRfl
import Derived.Test.YtfgjannlepahgaaGreatProg
import Derived.Shelf.SlicesE.Clone
import Derived.Test.YtfgjannlepahgaaGreatDeM2
set_option linter.unusedVariables false
set_option linter.unusedSimpArgs false
namespace Go.Abs
open Go.Proofs Go.Proofs.YtfgjannlepahgaaGreat Go.RowKit
def BB:Nat:=1048576
section
variable {H:Type} {enc:TypeId × Value → H} {w:World}
theorem slice_reads {α:Type} [Inhabited α] (cells:α → List Cell) (ok:α → Prop) {sz bs tsl tel:Nat} (hund:Tryz.prog.underlying tsl=some (.slice tel)) (hcell:Tryz.prog.cellsOf tel=sz) (hlen:∀ a,(cells a).length=sz) (hD:∀ a d,d ∈ cells a → d.isD=true) (hroom:BB * bs ≤ room)
  {fuel:Nat} {cs:List Value} {x:DataW H × List MemPlace} (h:DataW.trod enc Tryz.prog w 0 (fun _=>true) true fuel tsl cs=some x) (hb:Rows.uptoBulk x.1 ≤ BB)
  (hel:∀ {fuel:Nat} {cs:List Value} {y:DataW H × List MemPlace},DataW.trod enc Tryz.prog w 0 (fun _=>true) true fuel tel cs=some y → Rows.uptoBulk y.1 ≤ BB → ∃ a,All2 (RC (gOf w) w) (cells a) cs ∧ ok a) :
  ∃ l:List α,(∃ v,cs=[v] ∧ RC (gOf w) w (.sl sz bs (l.map cells)) v) ∧ ∀ a,a ∈ l → ok a:=by
 rcases Go.Deep.open_slice hund h with ⟨e2,_⟩ | ⟨a,len,cap,mm,nn,D,Pl,e2,_,hl,_,hm,rfl,hx⟩
 ·exact ⟨[],⟨_,e2,(nil_spec (gOf w) w sz bs).1⟩,by simp⟩
 ·simp only [if_true] at hm
  subst hm
  simp only [Rows.uptoBulk] at hb
  have hlen2:len ≤ BB:=by
   have:=bulk_all_len ((List.range len).map D)
   simp at this
   omega
  have hk:∀ i,∃ (t:α) (us:List Value),i < len → w.cells? 0 (a.add (i * sz)) sz=some us ∧ All2 (RC (gOf w) w) (cells t) us ∧ ok t:=fun i=>by
   by_cases hi:i < len
   ·obtain ⟨us,hu1,hu2⟩:=hx i (by omega)
    rw [hcell] at hu1
    have hDm:D i ∈ (List.range len).map D:=List.mem_map.2 ⟨i,by simpa using hi,rfl⟩
    have hle:=bulk_mem hDm
    obtain ⟨t,ht,hok⟩:=hel hu2 (by simp only;omega)
    exact ⟨t,us,fun _=>⟨hu1,ht,hok⟩⟩
   ·exact ⟨default,[],fun h=>absurd h hi⟩
  refine ⟨(List.range len).map fun i=>Classical.choose (hk i),⟨_,e2,?_⟩,fun t ht=>?_⟩
  rotate_left
  ·obtain ⟨i,hi,rfl⟩:=List.mem_map.1 ht
   obtain ⟨us,h2⟩:=Classical.choose_spec (hk i)
   exact (h2 (by simpa using hi)).2.2
  have hspec:∀ i,i < len → ∃ us,w.cells? 0 (a.add (i * sz)) sz=some us ∧ All2 (RC (gOf w) w) (cells (Classical.choose (hk i))) us:=fun i hi=>by
   obtain ⟨us,h⟩:=Classical.choose_spec (hk i)
   exact ⟨us,(h hi).1,(h hi).2.1⟩
  have hat:∀ i j,∃ v,i < len → j < sz → ∀ d,(cells (Classical.choose (hk i)))[j]? = some d → w.cell? (a.add (i * sz + j))=some v ∧ RC (gOf w) w d v:=fun i j=>by
   by_cases hi:i < len
   ·obtain ⟨us,hu,hall⟩:=hspec i hi
    by_cases hj:j < sz
    ·have hul:us.length=sz:=by have:=hall.length;rw [hlen] at this;exact this.symm
     refine ⟨us[j]'(by omega),fun _ _ d hd=>?_⟩
     unfold World.cells? at hu
     rw [if_pos (Nat.zero_le _)] at hu
     have hg:=mapM_some_get hu j j (by simp [hj])
     rw [List.getElem?_eq_getElem (by omega)] at hg
     rw [Addr.add_add] at hg
     obtain ⟨b,hb1,hb2⟩:=hall.get j d hd
     rw [List.getElem?_eq_getElem (by omega)] at hb1
     cases hb1
     exact ⟨hg,hb2⟩
    ·exact ⟨undef,fun _ h=>absurd h hj⟩
   ·exact ⟨undef,fun h=>absurd h hi⟩
  have hes:∀ (i j:Nat) l d,(((List.range len).map fun i=>Classical.choose (hk i)).map cells)[i]? = some l → l[j]? = some d → i < len ∧ j < sz ∧ (cells (Classical.choose (hk i)))[j]? = some d:=fun i j l d e1 e2=>by
   simp only [List.getElem?_map,Option.map_eq_some_iff,List.getElem?_eq_some_iff] at e1
   obtain ⟨t,⟨i',⟨hi',e3⟩,rfl⟩,rfl⟩:=e1
   simp at e3 hi'
   subst e3
   have hj:=(List.getElem?_eq_some_iff.1 e2).1
   rw [hlen] at hj
   exact ⟨hi',hj,e2⟩
  have key:RD (gOf w) w (.sl sz bs (((List.range len).map fun i=>Classical.choose (hk i)).map cells)) (.slice (some a) (((List.range len).map fun i=>Classical.choose (hk i)).map cells).length mm):=by
   refine .sl sz bs _ (some a) mm (fun i j=>Classical.choose (hat i j)) (by simpa using hl) (by simp;exact Nat.le_trans (Nat.mul_le_mul_right _ hlen2) hroom) (fun l hl=>?_) (fun i j l d e1 e2=>?_) (fun i j l d e1 e2=>?_)
   ·obtain ⟨t,_,rfl⟩:=List.mem_map.1 hl
    exact hlen t
   ·obtain ⟨hi,hj,hd⟩:=hes i j l d e1 e2
    have:=(Classical.choose_spec (hat i j) hi hj d hd).1
    exact ⟨_,rfl,cell_lt this,this⟩
   ·obtain ⟨hi,hj,hd⟩:=hes i j l d e1 e2
    have:=(Classical.choose_spec (hat i j) hi hj d hd).2
    exact isD_spec this (hD _ d (List.mem_of_getElem? hd))
  have key2:RC (gOf w) w (.sl sz bs (((List.range len).map fun i=>Classical.choose (hk i)).map cells)) (.slice (some a) (((List.range len).map fun i=>Classical.choose (hk i)).map cells).length mm):=key
  simpa using key2
instance:Inhabited A:=⟨⟨false,default,[],0,[]⟩⟩
instance:Inhabited S:=⟨⟨[],0,false,default⟩⟩
instance:Inhabited K:=⟨⟨0,[],[],default⟩⟩
instance:Inhabited En:=⟨⟨0,default,default,0,0,⟨[],[],0⟩⟩⟩
theorem cell126:Tryz.prog.cellsOf 126=7:=by kernel_rfl
theorem cell102:Tryz.prog.cellsOf 102=1:=by kernel_rfl
theorem cell104:Tryz.prog.cellsOf 104=6:=by kernel_rfl
theorem cell106:Tryz.prog.cellsOf 106=6:=by kernel_rfl
theorem cell65:Tryz.prog.cellsOf 65=1:=by kernel_rfl
theorem cell66:Tryz.prog.cellsOf 66=1:=by kernel_rfl
theorem cell68:Tryz.prog.cellsOf 68=3:=by kernel_rfl
theorem cell70:Tryz.prog.cellsOf 70=12:=by kernel_rfl
theorem cell4:Tryz.prog.cellsOf 4=1:=by kernel_rfl
theorem tread {fuel:Nat} {cs:List Value} {x:DataW H × List MemPlace} (h:DataW.trod enc Tryz.prog w 0 (fun _=>true) true fuel 63 cs=some x) (hb:Rows.uptoBulk x.1 ≤ BB):∃ t:T,All2 (RC (gOf w) w) t.cells cs ∧ t.ok:=by
 obtain ⟨t,h1,h2,h3⟩:=term_reads (B:=BB) (by simp [room,BB]) _ h (Nat.le_refl _) hb
 exact ⟨t,h1,Nat.le_trans h2 hb,h3⟩
theorem tsread {fuel:Nat} {cs:List Value} {x:DataW H × List MemPlace} (h:DataW.trod enc Tryz.prog w 0 (fun _=>true) true fuel 61 cs=some x) (hb:Rows.uptoBulk x.1 ≤ BB) :
  ∃ l:List T,(∃ v,cs=[v] ∧ RC (gOf w) w (.sl 3 40 (l.map T.cells)) v) ∧ ∀ a,a ∈ l → a.ok:=
 slice_reads T.cells T.ok Tryz.underlying61 cell24 cells_len cells_isD' (by simp [room,BB]) h hb tread
theorem fields {t:Nat} {fs:Array Field} {fuel:Nat} {cs:List Value} {x:DataW H × List MemPlace} (ht:Tryz.prog.underlying t=some (.struct fs)) (h:DataW.trod enc Tryz.prog w 0 (fun _=>true) true fuel t cs=some x) (hb:Rows.uptoBulk x.1 ≤ BB) :
  cs.length=Tryz.prog.cellsOf t ∧ ∀ (i ty off:Nat),(fs[i]?).map (fun f=>(f.type,f.offset))=some (ty,off) → ∃ n y,DataW.trod enc Tryz.prog w 0 (fun _=>true) true n ty ((cs.drop off).take (Tryz.prog.cellsOf ty))=some y ∧ Rows.uptoBulk y.1 ≤ BB:=by
 obtain ⟨xs,n,_,rfl,hl,hn,hf⟩:=DataW.trod_struct ht h
 refine ⟨hl,fun i ty off hi0=>?_⟩
 obtain ⟨f,hi,hto⟩:=Option.map_eq_some_iff.1 hi0
 cases hto
 have hi2:i < xs.length:=by rw [hn];exact (Array.getElem?_eq_some_iff.1 hi).1
 refine ⟨n,xs[i],?_,?_⟩
 ·rw [hf i f hi,List.getElem?_eq_getElem hi2]
 ·have:xs[i].1 ∈ xs.map (·.1):=List.mem_map.2 ⟨xs[i],List.getElem_mem hi2,rfl⟩
  have:=bulk_mem this
  simp only [Rows.uptoBulk] at hb
  omega
theorem seven {α:Type}:∀ {l:List α},l.length=7 → ∃ a b c d e f g,l=[a,b,c,d,e,f,g]
 | [a,b,c,d,e,f,g],_=>⟨a,b,c,d,e,f,g,rfl⟩
theorem six {α:Type}:∀ {l:List α},l.length=6 → ∃ a b c d e f,l=[a,b,c,d,e,f]
 | [a,b,c,d,e,f],_=>⟨a,b,c,d,e,f,rfl⟩
theorem twelve {α:Type}:∀ {l:List α},l.length=12 → ∃ a b c d e f g h i j k m,l=[a,b,c,d,e,f,g,h,i,j,k,m]
 | [a,b,c,d,e,f,g,h,i,j,k,m],_=>⟨a,b,c,d,e,f,g,h,i,j,k,m,rfl⟩
theorem t_three {t:T} {a b c:Value} (h:All2 (RC (gOf w) w) t.cells [a,b,c]):RC (gOf w) w (.v (.int .i64 t.kind)) a ∧ RC (gOf w) w (.v (.int .i64 t.val)) b ∧ RC (gOf w) w (.sl 3 40 (t.kids.map T.cells)) c:=by
 rw [cells_eq] at h
 exact ⟨h.1,h.2.1,h.2.2.1⟩
theorem aread {fuel:Nat} {cs:List Value} {x:DataW H × List MemPlace} (h:DataW.trod enc Tryz.prog w 0 (fun _=>true) true fuel 126 cs=some x) (hb:Rows.uptoBulk x.1 ≤ BB):∃ a:A,All2 (RC (gOf w) w) a.cells cs ∧ a.Ok:=by
 obtain ⟨hl,hf⟩:=fields Tryz.underlying126 h hb
 rw [cell126] at hl
 obtain ⟨v0,v1,v2,v3,v4,v5,v6,rfl⟩:=seven hl
 obtain ⟨n0,y0,g0,b0⟩:=hf 0 4 0 rfl
 obtain ⟨n1,y1,g1,b1⟩:=hf 1 63 1 rfl
 obtain ⟨n2,y2,g2,b2⟩:=hf 2 61 4 rfl
 obtain ⟨n3,y3,g3,b3⟩:=hf 3 3 5 rfl
 obtain ⟨n4,y4,g4,b4⟩:=hf 4 61 6 rfl
 simp only [cell4,cell24,cell22,cell3,List.drop_zero,List.drop_succ_cons,List.take_succ_cons,List.take_zero] at g0 g1 g2 g3 g4
 obtain ⟨r,e0,_⟩:=DataW.trod_bool Tryz.underlying4 g0
 cases e0
 obtain ⟨t,ht,hto⟩:=tread g1 b1
 obtain ⟨h1,h2,h3⟩:=t_three ht
 obtain ⟨d,⟨_,e2,hd⟩,hdo⟩:=tsread g2 b2
 cases e2
 obtain ⟨s,e3,_,_⟩:=DataW.trod_int Tryz.underlying3 g3
 cases e3
 obtain ⟨ix,⟨_,e4,hix⟩,hixo⟩:=tsread g4 b4
 cases e4
 exact ⟨⟨r,t,d,s,ix⟩,⟨.v _ rfl,h1,h2,h3,hd,.v _ rfl,hix,trivial⟩,⟨hto,hdo,hixo⟩⟩
theorem acells_len (a:A):a.cells.length=7:=rfl
theorem acells_isD (a:A) (d:Cell) (h:d ∈ a.cells):d.isD=true:=by
 simp [A.cells] at h
 rcases h with rfl | rfl | rfl | rfl | rfl | rfl | rfl <;> rfl
theorem asread {fuel:Nat} {cs:List Value} {x:DataW H × List MemPlace} (h:DataW.trod enc Tryz.prog w 0 (fun _=>true) true fuel 102 cs=some x) (hb:Rows.uptoBulk x.1 ≤ BB) :
  ∃ l:List A,(∃ v,cs=[v] ∧ RC (gOf w) w (.sl 7 104 (l.map A.cells)) v) ∧ ∀ a,a ∈ l → a.Ok:=
 slice_reads A.cells A.Ok Tryz.underlying102 cell126 acells_len acells_isD (by simp [room,BB]) h hb aread
theorem sread {fuel:Nat} {cs:List Value} {x:DataW H × List MemPlace} (h:DataW.trod enc Tryz.prog w 0 (fun _=>true) true fuel 104 cs=some x) (hb:Rows.uptoBulk x.1 ≤ BB):∃ a:S,All2 (RC (gOf w) w) a.cells cs ∧ a.Ok:=by
 obtain ⟨hl,hf⟩:=fields Tryz.underlying104 h hb
 rw [cell104] at hl
 obtain ⟨v0,v1,v2,v3,v4,v5,rfl⟩:=six hl
 obtain ⟨n0,y0,g0,b0⟩:=hf 0 102 0 rfl
 obtain ⟨n1,y1,g1,b1⟩:=hf 1 3 1 rfl
 obtain ⟨n2,y2,g2,b2⟩:=hf 2 4 2 rfl
 obtain ⟨n3,y3,g3,b3⟩:=hf 3 63 3 rfl
 simp only [cell4,cell24,cell22,cell3,cell102,List.drop_zero,List.drop_succ_cons,List.take_succ_cons,List.take_zero] at g0 g1 g2 g3
 obtain ⟨ix,⟨_,e0,hix⟩,hixo⟩:=asread g0 b0
 cases e0
 obtain ⟨lv,e1,_,_⟩:=DataW.trod_int Tryz.underlying3 g1
 cases e1
 obtain ⟨r,e2,_⟩:=DataW.trod_bool Tryz.underlying4 g2
 cases e2
 obtain ⟨t,ht,hto⟩:=tread g3 b3
 obtain ⟨h1,h2,h3⟩:=t_three ht
 exact ⟨⟨ix,lv,r,t⟩,⟨hix,.v _ rfl,.v _ rfl,h1,h2,h3,trivial⟩,⟨hixo,hto⟩⟩
theorem scells_isD (a:S) (d:Cell) (h:d ∈ a.cells):d.isD=true:=by
 simp [S.cells] at h
 rcases h with rfl | rfl | rfl | rfl | rfl | rfl <;> rfl
theorem ssread {fuel:Nat} {cs:List Value} {x:DataW H × List MemPlace} (h:DataW.trod enc Tryz.prog w 0 (fun _=>true) true fuel 65 cs=some x) (hb:Rows.uptoBulk x.1 ≤ BB) :
  ∃ l:List S,(∃ v,cs=[v] ∧ RC (gOf w) w (.sl 6 80 (l.map S.cells)) v) ∧ ∀ a,a ∈ l → a.Ok:=
 slice_reads S.cells S.Ok Tryz.underlying65 cell104 (fun _=>rfl) scells_isD (by simp [room,BB]) h hb sread
theorem kread {fuel:Nat} {cs:List Value} {x:DataW H × List MemPlace} (h:DataW.trod enc Tryz.prog w 0 (fun _=>true) true fuel 106 cs=some x) (hb:Rows.uptoBulk x.1 ≤ BB):∃ a:K,All2 (RC (gOf w) w) a.cells cs ∧ a.Ok:=by
 obtain ⟨hl,hf⟩:=fields Tryz.underlying106 h hb
 rw [cell106] at hl
 obtain ⟨v0,v1,v2,v3,v4,v5,rfl⟩:=six hl
 obtain ⟨n0,y0,g0,b0⟩:=hf 0 3 0 rfl
 obtain ⟨n1,y1,g1,b1⟩:=hf 1 102 1 rfl
 obtain ⟨n2,y2,g2,b2⟩:=hf 2 61 2 rfl
 obtain ⟨n3,y3,g3,b3⟩:=hf 3 63 3 rfl
 simp only [cell4,cell24,cell22,cell3,cell102,List.drop_zero,List.drop_succ_cons,List.take_succ_cons,List.take_zero] at g0 g1 g2 g3
 obtain ⟨so,e0,_,_⟩:=DataW.trod_int Tryz.underlying3 g0
 cases e0
 obtain ⟨ar,⟨_,e1,har⟩,haro⟩:=asread g1 b1
 cases e1
 obtain ⟨ix,⟨_,e2,hix⟩,hixo⟩:=tsread g2 b2
 cases e2
 obtain ⟨t,ht,hto⟩:=tread g3 b3
 obtain ⟨h1,h2,h3⟩:=t_three ht
 exact ⟨⟨so,ar,ix,t⟩,⟨.v _ rfl,har,hix,h1,h2,h3,trivial⟩,⟨haro,hixo,hto⟩⟩
theorem kcells_isD (a:K) (d:Cell) (h:d ∈ a.cells):d.isD=true:=by
 simp [K.cells] at h
 rcases h with rfl | rfl | rfl | rfl | rfl | rfl <;> rfl
theorem ksread {fuel:Nat} {cs:List Value} {x:DataW H × List MemPlace} (h:DataW.trod enc Tryz.prog w 0 (fun _=>true) true fuel 66 cs=some x) (hb:Rows.uptoBulk x.1 ≤ BB) :
  ∃ l:List K,(∃ v,cs=[v] ∧ RC (gOf w) w (.sl 6 96 (l.map K.cells)) v) ∧ ∀ a,a ∈ l → a.Ok:=
 slice_reads K.cells K.Ok Tryz.underlying66 cell106 (fun _=>rfl) kcells_isD (by simp [room,BB]) h hb kread
theorem bread {fuel:Nat} {cs:List Value} {x:DataW H × List MemPlace} (h:DataW.trod enc Tryz.prog w 0 (fun _=>true) true fuel 68 cs=some x) (hb:Rows.uptoBulk x.1 ≤ BB):∃ a:B,All2 (RC (gOf w) w) a.cells cs ∧ a.Ok:=by
 obtain ⟨hl,hf⟩:=fields Tryz.underlying68 h hb
 rw [cell68] at hl
 obtain ⟨v0,v1,v2,rfl⟩:=three hl
 obtain ⟨n0,y0,g0,b0⟩:=hf 0 65 0 rfl
 obtain ⟨n1,y1,g1,b1⟩:=hf 1 66 1 rfl
 obtain ⟨n2,y2,g2,b2⟩:=hf 2 3 2 rfl
 simp only [cell65,cell66,cell3,List.drop_zero,List.drop_succ_cons,List.take_succ_cons,List.take_zero] at g0 g1 g2
 obtain ⟨ss,⟨_,e0,hss⟩,hsso⟩:=ssread g0 b0
 cases e0
 obtain ⟨ks,⟨_,e1,hks⟩,hkso⟩:=ksread g1 b1
 cases e1
 obtain ⟨el,e2,_,_⟩:=DataW.trod_int Tryz.underlying3 g2
 cases e2
 exact ⟨⟨ss,ks,el⟩,⟨hss,hks,.v _ rfl,trivial⟩,⟨hsso,hkso⟩⟩
theorem enread {fuel:Nat} {cs:List Value} {x:DataW H × List MemPlace} (h:DataW.trod enc Tryz.prog w 0 (fun _=>true) true fuel 70 cs=some x) (hb:Rows.uptoBulk x.1 ≤ BB):∃ a:En,All2 (RC (gOf w) w) a.cells cs ∧ a.Ok:=by
 obtain ⟨hl,hf⟩:=fields Tryz.underlying70 h hb
 rw [cell70] at hl
 obtain ⟨v0,v1,v2,v3,v4,v5,v6,v7,v8,v9,v10,v11,rfl⟩:=twelve hl
 obtain ⟨n0,y0,g0,b0⟩:=hf 0 3 0 rfl
 obtain ⟨n1,y1,g1,b1⟩:=hf 1 63 1 rfl
 obtain ⟨n2,y2,g2,b2⟩:=hf 2 63 4 rfl
 obtain ⟨n3,y3,g3,b3⟩:=hf 3 3 7 rfl
 obtain ⟨n4,y4,g4,b4⟩:=hf 4 3 8 rfl
 obtain ⟨n5,y5,g5,b5⟩:=hf 5 68 9 rfl
 simp only [cell3,cell24,cell68,List.drop_zero,List.drop_succ_cons,List.take_succ_cons,List.take_zero] at g0 g1 g2 g3 g4 g5
 obtain ⟨k,e0,_,_⟩:=DataW.trod_int Tryz.underlying3 g0
 cases e0
 obtain ⟨t,ht,hto⟩:=tread g1 b1
 obtain ⟨h1,h2,h3⟩:=t_three ht
 obtain ⟨u,hu,huo⟩:=tread g2 b2
 obtain ⟨q1,q2,q3⟩:=t_three hu
 obtain ⟨ba,e3,_,_⟩:=DataW.trod_int Tryz.underlying3 g3
 cases e3
 obtain ⟨wh,e4,_,_⟩:=DataW.trod_int Tryz.underlying3 g4
 cases e4
 obtain ⟨bl,hbl,hblo⟩:=bread g5 b5
 exact ⟨⟨k,t,u,ba,wh,bl⟩,⟨.v _ rfl,h1,h2,h3,q1,q2,q3,.v _ rfl,.v _ rfl,hbl.1,hbl.2.1,hbl.2.2.1,trivial⟩,⟨hto,huo,hblo⟩⟩
theorem ecells_isD (a:En) (d:Cell) (h:d ∈ a.cells):d.isD=true:=by
 simp [En.cells] at h
 rcases h with rfl | rfl | rfl | rfl | rfl | rfl | rfl | rfl | rfl | rfl | rfl | rfl <;> rfl
theorem und37:Tryz.prog.underlying 37=some (.slice 70):=by kernel_rfl
end
set_option maxRecDepth 100000 in
theorem slice_ok37 {w:World} {base:Nat} {v:Value} (h:Value.okWide Tryz.prog w .any base 37 v):∃ a n c,v=.slice a n c:=Go.WideShapes.okWide_slice und37 h
theorem arg_entries {H:Type} {enc:TypeId × Value → H} {w:World} {v:Value} {d:DataW H} {ps:List MemPlace} (h:DataW.Trod enc Tryz.prog w 0 (fun _=>true) true 37 v d ps) (hv:∃ a n c,v=.slice a n c) (hb:Rows.uptoBulk d ≤ 1048576) :
  ∃ l:List En,RV2 (gOf w) w (ens l) v ∧ ∀ e,e ∈ l → e.Ok:=by
 obtain ⟨fuel,h⟩:=h
 obtain ⟨a0,n0,c0,rfl⟩:=hv
 obtain ⟨l,⟨v,e,hl⟩,ho⟩:=slice_reads En.cells En.Ok und37 cell70 (fun _=>rfl) ecells_isD (bs:=160) (by simp [room,BB]) h hb enread
 have e':[Value.slice a0 n0 c0]=[v]:=e
 cases e'
 exact ⟨l,fun _=>hl,ho⟩
end Go.Abs

namespace Go.Abs
def c1022b0:SCode:=
 .seq (.seq (.reg [m_ 8 3,m_ 9 0,o_ 10 (.len 37 (.t 9)),o_ 11 (.bin .lss (.t 8) (.t 10))]) (.cond (.t 11) (.skip) (.exit 0))) (.seq (.block 1 (.seq (.reg [m_ 14 0,m_ 15 3,o_ 16 (.call (.f 46) [.t 14,.t 15]),m_ 4 16]) (.seq (.dreg [0,0,3,7,0,0,32,127,255,511,1023,2047,4095,8191,8191,32767,65535,131071,8191,8191,794623,1843199,3940351,8388607,16777215,33554431,67108863] [m_ 17 0,m_ 18 3,o_ 19 (.iad 70 12 (.t 17) (.t 18)),o_ 20 (.ldn 70 12 (.t 19)),m_ 21 3,m_ 22 4,o_ 23 (.bin .lss (.t 22) (.k (.int .i64 0))),o_ 24 (.call (.f 47) [.t 20,.t 21,.t 23]),o_ 25 (.not (.t 24)),m_ 26 25,qm_ 27 26 4,q_ 28 26 (.bin .geq (.t 27) (.k (.int .i64 0))),qm_ 29 26 28,pm_ 30 29 0,pm_ 31 29 4,p_ 32 29 (.iad 70 12 (.t 30) (.t 31)),p_ 33 29 (.fad 70 5 9 (.t 32)),p_ 34 29 (.ldn 68 3 (.t 33)),pm_ 35 29 0,pm_ 36 29 3,p_ 37 29 (.iad 70 12 (.t 35) (.t 36)),p_ 38 29 (.fad 70 5 9 (.t 37)),
 p_ 39 29 (.ldn 68 3 (.t 38)),p_ 40 29 (.call (.f 48) [.t 34,.t 39]),p_ 41 29 (.not (.t 40)),q_ 42 26 (.pick (.t 29) (.t 41) (.k (.bool false))),o_ 43 (.pick (.t 26) (.k (.bool true)) (.t 42))]) (.cond (.t 43) (.seq (.reg [o_ 2 (.mv (.k (.int .i64 12)))]) (.ret)) (.skip))))) (.reg [m_ 12 3,o_ 13 (.bin .add (.t 12) (.k (.int .i64 1))),m_ 3 13]))
def c1022:SCode:=
 .seq (.reg [o_ 2 (.mv (.k (.int .i64 0)))]) (.seq (.seq (.reg [m_ 5 0,o_ 6 (.len 37 (.t 5)),o_ 7 (.bin .gtr (.t 6) (.k (.int .i64 200)))]) (.cond (.t 7) (.seq (.reg [o_ 2 (.mv (.k (.int .i64 13)))]) (.ret)) (.skip))) (.seq (.seq (.reg [o_ 3 (.mv (.k (.int .i64 0)))]) (.block 0 (.loop c1022b0))) (.seq (.reg [o_ 2 (.mv (.k (.int .i64 0)))]) (.ret))))
def r1022:List RR:=[.t 2]
theorem ok1022:okFn Go.Proofs.Tryz.prog 22 44 c1022 r1022 1=true:=by kernel_rfl
def c1046b0:SCode:=
 .seq (.seq (.reg [m_ 6 5,m_ 7 1,o_ 8 (.bin .lss (.t 6) (.t 7)),m_ 9 8,pm_ 10 9 0,pm_ 11 9 1,p_ 12 9 (.iad 70 12 (.t 10) (.t 11)),p_ 13 9 (.fad 70 0 0 (.t 12)),p_ 14 9 (.ld1 3 (.t 13)),p_ 15 9 (.bin .gtr (.t 14) (.k (.int .i64 2))),o_ 16 (.pick (.t 9) (.t 15) (.k (.bool false)))]) (.cond (.t 16) (.skip) (.exit 0))) (.seq (.block 1 (.seq (.dreg [0,0,3,7,15,31,63,127,127,511,1023,2047,127,127,12415,28799,61567,131071,262143] [m_ 19 0,m_ 20 5,o_ 21 (.iad 70 12 (.t 19) (.t 20)),o_ 22 (.fad 70 0 0 (.t 21)),o_ 23 (.ld1 3 (.t 22)),o_ 24 (.bin .gtr (.t 23) (.k (.int .i64 2))),m_ 25 24,pm_ 26 25 0,pm_ 27 25 5,p_ 28 25 (.iad 70 12 (.t 26) (.t 27)),p_ 29 25 (.fad 70 3 7 (.t 28)),p_ 30 25 (.ld1 3 (.t 29)),pm_ 31 25 0,pm_ 32 25 1,p_ 33 25 (.iad 70 12 (.t 31) (.t 32)),p_ 34 25 (.fad 70 3 7 (.t 33)),p_ 35 25 (.ld1 3 (.t 34)),p_ 36 25 (.bin .eql (.t 30) (.t 35)),
 o_ 37 (.pick (.t 25) (.t 36) (.k (.bool false)))]) (.cond (.t 37) (.seq (.reg [m_ 38 5,m_ 4 38]) (.ret)) (.skip)))) (.reg [m_ 17 5,o_ 18 (.bin .add (.t 17) (.k (.int .i64 1))),m_ 5 18]))
def c1046:SCode:=
 .seq (.reg [o_ 4 (.mv (.k (.int .i64 0)))]) (.seq (.seq (.reg [o_ 5 (.mv (.k (.int .i64 0)))]) (.block 0 (.loop c1046b0))) (.seq (.reg [o_ 4 (.mv (.k (.int .i64 (-1))))]) (.ret)))
def r1046:List RR:=[.t 4]
theorem ok1046:okFn Go.Proofs.Tryz.prog 46 39 c1046 r1046 2=true:=by kernel_rfl
def c1047:SCode:=
 .seq (.reg [o_ 3 (.box 70 (.t 0)),o_ 6 (.mv (.k (.bool false)))]) (.seq (.seq (.reg [o_ 8 (.fad 70 0 0 (.t 3)),o_ 9 (.ld1 3 (.t 8)),o_ 10 (.call (.f 68) [.t 9,.k (.int .i64 1),.k (.int .i64 6)]),o_ 11 (.not (.t 10)),m_ 12 11,q_ 13 12 (.fad 70 1 1 (.t 3)),q_ 14 12 (.ldn 63 3 (.t 13)),qm_ 15 12 1,q_ 16 12 (.call (.f 69) [.t 14,.k (.int .i64 0),.t 15]),q_ 17 12 (.not (.t 16)),o_ 18 (.pick (.t 12) (.k (.bool true)) (.t 17))]) (.cond (.t 18) (.seq (.reg [o_ 6 (.mv (.k (.bool false)))]) (.ret)) (.skip))) (.seq (.seq (.reg [o_ 19 (.fad 70 0 0 (.t 3)),o_ 20 (.ld1 3 (.t 19)),o_ 21 (.bin .eql (.t 20) (.k (.int .i64 2))),m_ 22 21,p_ 23 22 (.fad 70 2 4 (.t 3)),p_ 24 22 (.ldn 63 3 (.t 23)),pm_ 25 22 1,p_ 26 22 (.call (.f 69) [.t 24,.k (.int .i64 0),.t 25]),p_ 27 22 (.not (.t 26)),o_ 28 (.pick (.t 22) (.t 27) (.k (.bool false))),m_ 29 28,q_ 30 29 (.fad 70 0 0 (.t 3)),q_ 31 29 (.ld1 3 (.t 30)),
 q_ 32 29 (.bin .neq (.t 31) (.k (.int .i64 2))),qm_ 33 29 32,p_ 34 33 (.fad 70 2 4 (.t 3)),p_ 35 33 (.ldn 63 3 (.t 34)),p_ 36 33 (.call (.f 70) [.t 35]),p_ 37 33 (.not (.t 36)),q_ 38 29 (.pick (.t 33) (.t 37) (.k (.bool false))),o_ 39 (.pick (.t 29) (.k (.bool true)) (.t 38))]) (.cond (.t 39) (.seq (.reg [o_ 6 (.mv (.k (.bool false)))]) (.ret)) (.skip))) (.seq (.seq (.reg [o_ 40 (.fad 70 0 0 (.t 3)),o_ 41 (.ld1 3 (.t 40)),o_ 42 (.bin .eql (.t 41) (.k (.int .i64 1))),m_ 43 42,q_ 44 43 (.fad 70 0 0 (.t 3)),q_ 45 43 (.ld1 3 (.t 44)),q_ 46 43 (.bin .eql (.t 45) (.k (.int .i64 2))),o_ 47 (.pick (.t 43) (.k (.bool true)) (.t 46))]) (.cond (.t 47) (.seq (.reg [o_ 48 (.fad 70 3 7 (.t 3)),o_ 49 (.ld1 3 (.t 48)),o_ 50 (.bin .eql (.t 49) (.k (.int .i64 0))),m_ 51 50,p_ 52 51 (.fad 70 4 8 (.t 3)),p_ 53 51 (.ld1 3 (.t 52)),p_ 54 51 (.bin .eql (.t 53) (.k (.int .i64 0))),
 o_ 55 (.pick (.t 51) (.t 54) (.k (.bool false))),m_ 56 55,p_ 57 56 (.fad 70 5 9 (.t 3)),p_ 58 56 (.ldn 68 3 (.t 57)),p_ 59 56 (.build 68 [.cap 6 80 [],.cap 6 96 [],.v (.int .i64 0)] []),p_ 60 56 (.call (.f 48) [.t 58,.t 59]),o_ 61 (.pick (.t 56) (.t 60) (.k (.bool false))),m_ 6 61]) (.ret)) (.skip))) (.seq (.seq (.dreg [0,1,3,7,3,19,63,127,255,511,1023,2047,511,4607,511,16895,53247,131071,262143,524287,1048575] [m_ 62 2,m_ 63 62,p_ 64 63 (.fad 70 5 9 (.t 3)),p_ 65 63 (.ldn 68 3 (.t 64)),p_ 66 63 (.fad 70 3 7 (.t 3)),p_ 67 63 (.ld1 3 (.t 66)),p_ 68 63 (.call (.f 71) [.t 65,.t 67]),p_ 69 63 (.bin .neq (.t 68) (.k (.int .i64 0))),pm_ 70 63 69,q_ 71 70 (.fad 70 5 9 (.t 3)),q_ 72 70 (.ldn 68 3 (.t 71)),q_ 73 70 (.call (.f 72) [.t 72]),q_ 74 70 (.fad 70 3 7 (.t 3)),q_ 75 70 (.ld1 3 (.t 74)),q_ 76 70 (.fad 70 5 9 (.t 3)),q_ 77 70 (.ldn 68 3 (.t 76)),
 q_ 78 70 (.call (.f 73) [.t 77]),q_ 79 70 (.bin .add (.t 75) (.t 78)),q_ 80 70 (.bin .geq (.t 73) (.t 79)),p_ 81 63 (.pick (.t 70) (.k (.bool true)) (.t 80)),o_ 82 (.pick (.t 63) (.t 81) (.k (.bool false)))]) (.cond (.t 82) (.seq (.reg [o_ 6 (.mv (.k (.bool false)))]) (.ret)) (.skip))) (.seq (.reg [o_ 7 (.mv (.k (.int .i64 (-1))))]) (.seq (.seq (.reg [o_ 83 (.fad 70 0 0 (.t 3)),o_ 84 (.ld1 3 (.t 83))]) (.block 0 (.seq (.reg [o_ 86 (.bin .eql (.t 84) (.k (.int .i64 3))),m_ 85 86]) (.cond (.t 85) (.reg [o_ 87 (.fad 70 5 9 (.t 3)),o_ 88 (.ldn 68 3 (.t 87)),o_ 89 (.fad 70 3 7 (.t 3)),o_ 90 (.ld1 3 (.t 89)),o_ 91 (.fad 70 4 8 (.t 3)),o_ 92 (.ld1 3 (.t 91)),o_ 93 (.call (.f 74) [.t 88,.t 90,.t 92]),m_ 7 93]) (.seq (.reg [o_ 95 (.bin .eql (.t 84) (.k (.int .i64 4))),m_ 94 95]) (.cond (.t 94) (.reg [o_ 96 (.fad 70 5 9 (.t 3)),o_ 97 (.ldn 68 3 (.t 96)),o_ 98 (.fad 70 3 7 (.t 3)),
 o_ 99 (.ld1 3 (.t 98)),o_ 100 (.fad 70 4 8 (.t 3)),o_ 101 (.ld1 3 (.t 100)),o_ 102 (.call (.f 75) [.t 97,.t 99,.t 101]),m_ 7 102]) (.seq (.reg [o_ 104 (.bin .eql (.t 84) (.k (.int .i64 5))),m_ 103 104]) (.cond (.t 103) (.reg [o_ 105 (.fad 70 5 9 (.t 3)),o_ 106 (.ldn 68 3 (.t 105)),o_ 107 (.fad 70 3 7 (.t 3)),o_ 108 (.ld1 3 (.t 107)),o_ 109 (.fad 70 4 8 (.t 3)),o_ 110 (.ld1 3 (.t 109)),o_ 111 (.call (.f 76) [.t 106,.t 108,.t 110]),m_ 7 111]) (.seq (.reg [o_ 113 (.bin .eql (.t 84) (.k (.int .i64 6))),m_ 112 113]) (.cond (.t 112) (.reg [o_ 114 (.fad 70 5 9 (.t 3)),o_ 115 (.ldn 68 3 (.t 114)),o_ 116 (.fad 70 3 7 (.t 3)),o_ 117 (.ld1 3 (.t 116)),o_ 118 (.fad 70 4 8 (.t 3)),o_ 119 (.ld1 3 (.t 118)),o_ 120 (.call (.f 77) [.t 115,.t 117,.t 119]),m_ 7 120]) (.skip))))))))))) (.seq (.reg [m_ 121 7,m_ 122 1,o_ 123 (.bin .eql (.t 121) (.t 122)),m_ 6 123]) (.ret))))))))
def r1047:List RR:=[.t 6]
theorem ok1047:okFn Go.Proofs.Tryz.prog 47 124 c1047 r1047 3=true:=by kernel_rfl
def c1068:SCode:=
 .seq (.reg [o_ 6 (.mv (.k (.bool false)))]) (.seq (.reg [m_ 7 0,m_ 8 1,o_ 9 (.bin .geq (.t 7) (.t 8)),m_ 10 9,pm_ 11 10 0,pm_ 12 10 2,p_ 13 10 (.bin .leq (.t 11) (.t 12)),o_ 14 (.pick (.t 10) (.t 13) (.k (.bool false))),m_ 6 14]) (.ret))
def r1068:List RR:=[.t 6]
theorem ok1068:okFn Go.Proofs.Tryz.prog 68 15 c1068 r1068 3=true:=by kernel_rfl
def c1070:SCode:=
 .seq (.reg [o_ 1 (.box 63 (.t 0)),o_ 2 (.mv (.k (.bool false)))]) (.seq (.reg [o_ 3 (.ldn 63 3 (.t 1)),o_ 4 (.build 63 [.v (.int .i64 0),.v (.int .i64 0),.cap 3 40 []] []),o_ 5 (.call (.f 49) [.t 3,.t 4]),m_ 2 5]) (.ret))
def r1070:List RR:=[.t 2]
theorem ok1070:okFn Go.Proofs.Tryz.prog 70 6 c1070 r1070 1=true:=by kernel_rfl
def c1071b0:SCode:=
 .seq (.seq (.reg [m_ 16 5,o_ 17 (.fad 68 0 0 (.t 2)),o_ 18 (.ld1 65 (.t 17)),o_ 19 (.len 65 (.t 18)),o_ 20 (.bin .lss (.t 16) (.t 19))]) (.cond (.t 20) (.skip) (.exit 0))) (.seq (.block 1 (.seq (.reg [o_ 23 (.fad 68 0 0 (.t 2)),o_ 24 (.ld1 65 (.t 23)),m_ 25 5,o_ 26 (.iad 104 6 (.t 24) (.t 25)),o_ 27 (.ldn 104 6 (.t 26)),o_ 6 (.alloc 104 [.cap 7 104 [],.v (.int .i64 0),.v (.bool false),.v (.int .i64 0),.v (.int .i64 0),.cap 3 40 []]),n_ (.stn 104 6 (.t 6) (.t 27))]) (.seq (.dreg [0,0,0,4,15,31,63,127,255,511,1023,1023,1023,5119,16383,1023,33791,131071,262143,524287,1048575] [o_ 28 (.ldn 68 3 (.t 2)),m_ 29 1,o_ 30 (.fad 104 0 0 (.t 6)),o_ 31 (.ld1 102 (.t 30)),o_ 32 (.call (.f 103) [.t 28,.t 29,.t 31,.k (.int .i64 0)]),o_ 33 (.not (.t 32)),m_ 34 33,q_ 35 34 (.fad 104 2 2 (.t 6)),q_ 36 34 (.ld1 4 (.t 35)),qm_ 37 34 36,p_ 38 37 (.ldn 68 3 (.t 2)),pm_ 39 37 1,
 p_ 40 37 (.fad 104 0 0 (.t 6)),p_ 41 37 (.ld1 102 (.t 40)),p_ 42 37 (.call (.f 104) [.t 38,.t 39,.t 41]),p_ 43 37 (.fad 104 3 3 (.t 6)),p_ 44 37 (.ldn 63 3 (.t 43)),p_ 45 37 (.call (.f 105) [.t 42,.t 44]),p_ 46 37 (.not (.t 45)),q_ 47 34 (.pick (.t 37) (.t 46) (.k (.bool false))),o_ 48 (.pick (.t 34) (.k (.bool true)) (.t 47))]) (.cond (.t 48) (.seq (.reg [o_ 4 (.mv (.k (.int .i64 11)))]) (.ret)) (.skip))))) (.reg [m_ 21 5,o_ 22 (.bin .add (.t 21) (.k (.int .i64 1))),m_ 5 22]))
def c1071b1:SCode:=
 .seq (.seq (.reg [m_ 49 7,o_ 50 (.fad 68 1 1 (.t 2)),o_ 51 (.ld1 66 (.t 50)),o_ 52 (.len 66 (.t 51)),o_ 53 (.bin .lss (.t 49) (.t 52))]) (.cond (.t 53) (.skip) (.exit 2))) (.seq (.block 3 (.seq (.reg [o_ 56 (.fad 68 1 1 (.t 2)),o_ 57 (.ld1 66 (.t 56)),m_ 58 7,o_ 59 (.iad 106 6 (.t 57) (.t 58)),o_ 60 (.ldn 106 6 (.t 59)),o_ 8 (.alloc 106 [.v (.int .i64 0),.cap 7 104 [],.cap 3 40 [],.v (.int .i64 0),.v (.int .i64 0),.cap 3 40 []]),n_ (.stn 106 6 (.t 8) (.t 60))]) (.seq (.reg [o_ 61 (.ldn 68 3 (.t 2)),m_ 62 1,o_ 63 (.fad 106 1 1 (.t 8)),o_ 64 (.ld1 102 (.t 63)),o_ 65 (.call (.f 104) [.t 61,.t 62,.t 64]),o_ 9 (.alloc 134 [.cap 6 80 [],.cap 6 96 [],.v (.int .i64 0),.v (.int .i64 0),.cap 1 8 [],.cap 7 104 []]),n_ (.stn 134 6 (.t 9) (.t 65))]) (.seq (.reg [o_ 66 (.ldn 68 3 (.t 2)),m_ 67 1,o_ 68 (.fad 106 1 1 (.t 8)),o_ 69 (.ld1 102 (.t 68)),m_ 70 7,
 o_ 71 (.call (.f 103) [.t 66,.t 67,.t 69,.t 70]),o_ 72 (.not (.t 71)),m_ 73 72,q_ 74 73 (.ldn 134 6 (.t 9)),q_ 75 73 (.fad 106 0 0 (.t 8)),q_ 76 73 (.ld1 3 (.t 75)),q_ 77 73 (.fad 106 2 2 (.t 8)),q_ 78 73 (.ld1 61 (.t 77)),qm_ 79 73 7,q_ 80 73 (.call (.f 106) [.t 74,.t 76,.t 78,.t 79]),q_ 81 73 (.not (.t 80)),o_ 82 (.pick (.t 73) (.k (.bool true)) (.t 81)),m_ 83 82,q_ 84 83 (.fad 68 0 0 (.t 2)),q_ 85 83 (.ld1 65 (.t 84)),q_ 86 83 (.fad 106 0 0 (.t 8)),q_ 87 83 (.ld1 3 (.t 86)),q_ 88 83 (.iad 104 6 (.t 85) (.t 87)),q_ 89 83 (.fad 104 2 2 (.t 88)),q_ 90 83 (.ld1 4 (.t 89)),qm_ 91 83 90,p_ 92 91 (.ldn 134 6 (.t 9)),p_ 93 91 (.fad 106 3 3 (.t 8)),p_ 94 91 (.ldn 63 3 (.t 93)),p_ 95 91 (.call (.f 105) [.t 92,.t 94]),p_ 96 91 (.not (.t 95)),q_ 97 83 (.pick (.t 91) (.t 96) (.k (.bool false))),o_ 98 (.pick (.t 83) (.k (.bool true)) (.t 97))]) (.cond (.t 98) (.seq (.reg
 [o_ 4 (.mv (.k (.int .i64 11)))]) (.ret)) (.skip)))))) (.reg [m_ 54 7,o_ 55 (.bin .add (.t 54) (.k (.int .i64 1))),m_ 7 55]))
def c1071:SCode:=
 .seq (.reg [o_ 2 (.box 68 (.t 0)),o_ 4 (.mv (.k (.int .i64 0)))]) (.seq (.seq (.reg [o_ 10 (.ldn 68 3 (.t 2)),o_ 11 (.call (.f 101) [.t 10]),o_ 12 (.not (.t 11))]) (.cond (.t 12) (.seq (.reg [o_ 4 (.mv (.k (.int .i64 12)))]) (.ret)) (.skip))) (.seq (.seq (.reg [m_ 13 1,o_ 14 (.call (.f 102) [.t 13,.k (.int .i64 0),.k (.int .i64 65535)]),o_ 15 (.not (.t 14))]) (.cond (.t 15) (.seq (.reg [o_ 4 (.mv (.k (.int .i64 1)))]) (.ret)) (.skip))) (.seq (.seq (.reg [o_ 5 (.mv (.k (.int .i64 0)))]) (.block 0 (.loop c1071b0))) (.seq (.seq (.reg [o_ 7 (.mv (.k (.int .i64 0)))]) (.block 2 (.loop c1071b1))) (.seq (.reg [o_ 4 (.mv (.k (.int .i64 0)))]) (.ret))))))
def r1071:List RR:=[.t 4]
theorem ok1071:okFn Go.Proofs.Tryz.prog 71 99 c1071 r1071 2=true:=by kernel_rfl
def c1101b0:SCode:=
 .seq (.seq (.reg [m_ 47 6,o_ 48 (.fad 104 0 0 (.t 4)),o_ 49 (.ld1 102 (.t 48)),o_ 50 (.len 102 (.t 49)),o_ 51 (.bin .lss (.t 47) (.t 50))]) (.cond (.t 51) (.skip) (.exit 2))) (.seq (.block 3 (.seq (.seq (.dreg [0,0,2,0,14,30,0,127,255,511,1023,2047,1023,8191,16383,32767,65535,131071,262143,131071,1048575,2097151,4194303,8388607,16777215,33554431,67108863,134217727,67108863,536870911,1073741823,2147483647,67108863,8589934591,17179869183,34359738367,68719476735] [o_ 54 (.ldn 68 3 (.t 1)),o_ 55 (.fad 104 0 0 (.t 4)),o_ 56 (.ld1 102 (.t 55)),m_ 57 6,o_ 58 (.iad 126 7 (.t 56) (.t 57)),o_ 59 (.ldn 126 7 (.t 58)),m_ 60 6,o_ 61 (.call (.f 141) [.t 54,.t 59,.t 60]),o_ 62 (.not (.t 61)),m_ 63 62,q_ 64 63 (.fad 104 0 0 (.t 4)),q_ 65 63 (.ld1 102 (.t 64)),qm_ 66 63 6,q_ 67 63 (.iad 126 7 (.t 65) (.t 66)),q_ 68 63 (.fad 126 0 0 (.t 67)),q_ 69 63 (.ld1 4 (.t 68)),
 qm_ 70 63 69,p_ 71 70 (.fad 104 0 0 (.t 4)),p_ 72 70 (.ld1 102 (.t 71)),pm_ 73 70 6,p_ 74 70 (.iad 126 7 (.t 72) (.t 73)),p_ 75 70 (.fad 126 2 4 (.t 74)),p_ 76 70 (.ld1 61 (.t 75)),p_ 77 70 (.len 61 (.t 76)),p_ 78 70 (.bin .gtr (.t 77) (.k (.int .i64 0))),pm_ 79 70 78,q_ 80 79 (.fad 104 0 0 (.t 4)),q_ 81 79 (.ld1 102 (.t 80)),qm_ 82 79 6,q_ 83 79 (.iad 126 7 (.t 81) (.t 82)),q_ 84 79 (.fad 126 3 5 (.t 83)),q_ 85 79 (.ld1 3 (.t 84)),qm_ 86 79 3,q_ 87 79 (.bin .geq (.t 85) (.t 86)),p_ 88 70 (.pick (.t 79) (.k (.bool true)) (.t 87)),q_ 89 63 (.pick (.t 70) (.t 88) (.k (.bool false))),o_ 90 (.pick (.t 63) (.k (.bool true)) (.t 89))]) (.cond (.t 90) (.seq (.reg [o_ 2 (.mv (.k (.bool false)))]) (.ret)) (.skip))) (.reg [m_ 91 5,m_ 92 91,q_ 93 92 (.fad 104 0 0 (.t 4)),q_ 94 92 (.ld1 102 (.t 93)),qm_ 95 92 6,q_ 96 92 (.iad 126 7 (.t 94) (.t 95)),q_ 97 92 (.fad 126 0 0 (.t 96)),
 q_ 98 92 (.ld1 4 (.t 97)),o_ 99 (.pick (.t 92) (.k (.bool true)) (.t 98)),m_ 5 99]))) (.reg [m_ 52 6,o_ 53 (.bin .add (.t 52) (.k (.int .i64 1))),m_ 6 53]))
def c1101b1:SCode:=
 .seq (.seq (.reg [m_ 25 3,o_ 26 (.fad 68 0 0 (.t 1)),o_ 27 (.ld1 65 (.t 26)),o_ 28 (.len 65 (.t 27)),o_ 29 (.bin .lss (.t 25) (.t 28))]) (.cond (.t 29) (.skip) (.exit 0))) (.seq (.block 1 (.seq (.reg [o_ 32 (.fad 68 0 0 (.t 1)),o_ 33 (.ld1 65 (.t 32)),m_ 34 3,o_ 35 (.iad 104 6 (.t 33) (.t 34)),o_ 36 (.ldn 104 6 (.t 35)),o_ 4 (.alloc 104 [.cap 7 104 [],.v (.int .i64 0),.v (.bool false),.v (.int .i64 0),.v (.int .i64 0),.cap 3 40 []]),n_ (.stn 104 6 (.t 4) (.t 36))]) (.seq (.seq (.reg [o_ 37 (.fad 104 0 0 (.t 4)),o_ 38 (.ld1 102 (.t 37)),o_ 39 (.len 102 (.t 38)),o_ 40 (.bin .gtr (.t 39) (.k (.int .i64 12))),m_ 41 40,q_ 42 41 (.fad 104 1 1 (.t 4)),q_ 43 41 (.ld1 3 (.t 42)),q_ 44 41 (.call (.f 102) [.t 43,.k (.int .i64 0),.k (.int .i64 6)]),q_ 45 41 (.not (.t 44)),o_ 46 (.pick (.t 41) (.k (.bool true)) (.t 45))]) (.cond (.t 46) (.seq (.reg [o_ 2 (.mv (.k (.bool false)))]) (.ret))
 (.skip))) (.seq (.reg [o_ 5 (.mv (.k (.bool false)))]) (.seq (.seq (.reg [o_ 6 (.mv (.k (.int .i64 0)))]) (.block 2 (.loop c1101b0))) (.seq (.reg [o_ 100 (.fad 104 2 2 (.t 4)),o_ 101 (.ld1 4 (.t 100)),m_ 102 101,pm_ 103 102 5,pm_ 104 102 103,q_ 105 104 (.fad 104 3 3 (.t 4)),q_ 106 104 (.ldn 63 3 (.t 105)),q_ 107 104 (.fad 104 0 0 (.t 4)),q_ 108 104 (.ld1 102 (.t 107)),q_ 109 104 (.len 102 (.t 108)),q_ 110 104 (.call (.f 142) [.t 106,.t 109]),q_ 111 104 (.not (.t 110)),p_ 112 102 (.pick (.t 104) (.k (.bool true)) (.t 111)),o_ 113 (.pick (.t 102) (.t 112) (.k (.bool false))),m_ 114 113,q_ 115 114 (.fad 104 2 2 (.t 4)),q_ 116 114 (.ld1 4 (.t 115)),q_ 117 114 (.not (.t 116)),qm_ 118 114 117,p_ 119 118 (.fad 104 3 3 (.t 4)),p_ 120 118 (.ldn 63 3 (.t 119)),p_ 121 118 (.call (.f 143) [.t 120]),p_ 122 118 (.not (.t 121)),q_ 123 114 (.pick (.t 118) (.t 122) (.k (.bool false))),
 o_ 124 (.pick (.t 114) (.k (.bool true)) (.t 123))]) (.cond (.t 124) (.seq (.reg [o_ 2 (.mv (.k (.bool false)))]) (.ret)) (.skip)))))))) (.reg [m_ 30 3,o_ 31 (.bin .add (.t 30) (.k (.int .i64 1))),m_ 3 31]))
def c1101b2:SCode:=
 .seq (.seq (.reg [m_ 125 7,o_ 126 (.fad 68 1 1 (.t 1)),o_ 127 (.ld1 66 (.t 126)),o_ 128 (.len 66 (.t 127)),o_ 129 (.bin .lss (.t 125) (.t 128))]) (.cond (.t 129) (.skip) (.exit 4))) (.seq (.block 5 (.seq (.dreg [0,0,2,0,14,30,63,127] [o_ 132 (.ldn 68 3 (.t 1)),o_ 133 (.fad 68 1 1 (.t 1)),o_ 134 (.ld1 66 (.t 133)),m_ 135 7,o_ 136 (.iad 106 6 (.t 134) (.t 135)),o_ 137 (.ldn 106 6 (.t 136)),o_ 138 (.call (.f 144) [.t 132,.t 137]),o_ 139 (.not (.t 138))]) (.cond (.t 139) (.seq (.reg [o_ 2 (.mv (.k (.bool false)))]) (.ret)) (.skip)))) (.reg [m_ 130 7,o_ 131 (.bin .add (.t 130) (.k (.int .i64 1))),m_ 7 131]))
def c1101:SCode:=
 .seq (.reg [o_ 1 (.box 68 (.t 0)),o_ 2 (.mv (.k (.bool false)))]) (.seq (.seq (.reg [o_ 8 (.fad 68 0 0 (.t 1)),o_ 9 (.ld1 65 (.t 8)),o_ 10 (.len 65 (.t 9)),o_ 11 (.call (.f 102) [.t 10,.k (.int .i64 1),.k (.int .i64 4)]),o_ 12 (.not (.t 11)),m_ 13 12,q_ 14 13 (.fad 68 1 1 (.t 1)),q_ 15 13 (.ld1 66 (.t 14)),q_ 16 13 (.len 66 (.t 15)),q_ 17 13 (.bin .gtr (.t 16) (.k (.int .i64 8))),o_ 18 (.pick (.t 13) (.k (.bool true)) (.t 17)),m_ 19 18,q_ 20 19 (.fad 68 2 2 (.t 1)),q_ 21 19 (.ld1 3 (.t 20)),q_ 22 19 (.call (.f 102) [.t 21,.k (.int .i64 0),.k (.int .i64 6)]),q_ 23 19 (.not (.t 22)),o_ 24 (.pick (.t 19) (.k (.bool true)) (.t 23))]) (.cond (.t 24) (.seq (.reg [o_ 2 (.mv (.k (.bool false)))]) (.ret)) (.skip))) (.seq (.seq (.reg [o_ 3 (.mv (.k (.int .i64 0)))]) (.block 0 (.loop c1101b1))) (.seq (.seq (.reg [o_ 7 (.mv (.k (.int .i64 0)))]) (.block 4 (.loop c1101b2))) (.seq (.reg
 [o_ 2 (.mv (.k (.bool true)))]) (.ret)))))
def r1101:List RR:=[.t 2]
theorem ok1101:okFn Go.Proofs.Tryz.prog 101 140 c1101 r1101 1=true:=by kernel_rfl
def c1102:SCode:=
 .seq (.reg [o_ 6 (.mv (.k (.bool false)))]) (.seq (.reg [m_ 7 0,m_ 8 1,o_ 9 (.bin .geq (.t 7) (.t 8)),m_ 10 9,pm_ 11 10 0,pm_ 12 10 2,p_ 13 10 (.bin .leq (.t 11) (.t 12)),o_ 14 (.pick (.t 10) (.t 13) (.k (.bool false))),m_ 6 14]) (.ret))
def r1102:List RR:=[.t 6]
theorem ok1102:okFn Go.Proofs.Tryz.prog 102 15 c1102 r1102 3=true:=by kernel_rfl
def w1103_0:List (List Nat):=[[],[],[],[],[],[],[1103010],[1103010]]
def f1103_0:List (List Nat):=[[1103010],[1103010],[1103010],[1103010],[1103010],[1103010],[],[]]
def c1103b0:SCode:=
 .seq (.seq (.reg [m_ 38 11,m_ 39 2,m_ 40 9,o_ 41 (.iad 126 7 (.t 39) (.t 40)),o_ 42 (.fad 126 2 4 (.t 41)),o_ 43 (.ld1 61 (.t 42)),o_ 44 (.len 61 (.t 43)),o_ 45 (.bin .lss (.t 38) (.t 44))]) (.cond (.t 45) (.skip) (.exit 2))) (.seq (.block 3 (.seq (.dreg [0,0,3,0,0,24,56,120,0,504,1016,2047,4095] [o_ 48 (.ldn 134 6 (.t 10)),m_ 49 11,o_ 50 (.call (.f 145) [.t 48,.t 49]),m_ 51 2,m_ 52 9,o_ 53 (.iad 126 7 (.t 51) (.t 52)),o_ 54 (.fad 126 2 4 (.t 53)),o_ 55 (.ld1 61 (.t 54)),m_ 56 11,o_ 57 (.iad 63 3 (.t 55) (.t 56)),o_ 58 (.ldn 63 3 (.t 57)),o_ 59 (.call (.f 105) [.t 50,.t 58]),o_ 60 (.not (.t 59))]) (.cond (.t 60) (.seq (.reg [o_ 8 (.mv (.k (.bool false)))]) (.ret)) (.skip)))) (.reg [m_ 46 11,o_ 47 (.bin .add (.t 46) (.k (.int .i64 1))),m_ 11 47]))
def c1103b1:SCode:=
 .seq (.seq (.reg [m_ 12 9,m_ 13 2,o_ 14 (.len 102 (.t 13)),o_ 15 (.bin .lss (.t 12) (.t 14))]) (.cond (.t 15) (.skip) (.exit 0))) (.seq (.block 1 (.seq (.dreg [0,0,0,0,12,31,0,127] [o_ 18 (.ldn 68 3 (.t 4)),m_ 19 1,m_ 20 2,m_ 21 9,o_ 22 (.slc 126 7 104 (.t 20) none (some (.t 21)) none),o_ 23 (.call (.f 104) [.t 18,.t 19,.t 22]),o_ 10 (.alloc 134 [.cap 6 80 [],.cap 6 96 [],.v (.int .i64 0),.v (.int .i64 0),.cap 1 8 [],.cap 7 104 []]),n_ (.stn 134 6 (.t 10) (.t 23))]) (.seq (.seq (.reg [m_ 24 2,m_ 25 9,o_ 26 (.iad 126 7 (.t 24) (.t 25)),o_ 27 (.fad 126 0 0 (.t 26)),o_ 28 (.ld1 4 (.t 27)),o_ 29 (.not (.t 28))]) (.cond (.t 29) (.seq (.seq (.dreg [0,0,0,6,14,30,63,127] [o_ 30 (.ldn 134 6 (.t 10)),m_ 31 2,m_ 32 9,o_ 33 (.iad 126 7 (.t 31) (.t 32)),o_ 34 (.fad 126 1 1 (.t 33)),o_ 35 (.ldn 63 3 (.t 34)),o_ 36 (.call (.f 105) [.t 30,.t 35]),o_ 37 (.not (.t 36))])
 (.cond (.t 37) (.seq (.reg [o_ 8 (.mv (.k (.bool false)))]) (.ret)) (.skip))) (.exit 1)) (.skip))) (.seq (.seq (.reg [o_ 11 (.mv (.k (.int .i64 0)))]) (.block 2 (.loop c1103b0))) (.seq (.dreg [0,0,0,6,14,30,62,127,0,0,768,1792,3840,0,0,24576,57344,122880,0,524287,1048575] [o_ 61 (.ldn 134 6 (.t 10)),m_ 62 2,m_ 63 9,o_ 64 (.iad 126 7 (.t 62) (.t 63)),o_ 65 (.fad 126 2 4 (.t 64)),o_ 66 (.ld1 61 (.t 65)),o_ 67 (.len 61 (.t 66)),o_ 68 (.call (.f 145) [.t 61,.t 67]),m_ 69 2,m_ 70 9,o_ 71 (.iad 126 7 (.t 69) (.t 70)),o_ 72 (.fad 126 3 5 (.t 71)),o_ 73 (.ld1 3 (.t 72)),m_ 74 2,m_ 75 9,o_ 76 (.iad 126 7 (.t 74) (.t 75)),o_ 77 (.fad 126 4 6 (.t 76)),o_ 78 (.ld1 61 (.t 77)),m_ 79 3,o_ 80 (.call (.f 106) [.t 68,.t 73,.t 78,.t 79]),o_ 81 (.not (.t 80))]) (.cond (.t 81) (.seq (.reg [o_ 8 (.mv (.k (.bool false)))]) (.ret)) (.skip))))))) (.reg [m_ 16 9,
 o_ 17 (.bin .add (.t 16) (.k (.int .i64 1))),m_ 9 17]))
def c1103:SCode:=
 .seq (.reg [o_ 4 (.box 68 (.t 0)),o_ 8 (.mv (.k (.bool false)))]) (.seq (.seq (.reg [o_ 9 (.mv (.k (.int .i64 0)))]) (.block 0 (.loop c1103b1))) (.seq (.reg [o_ 8 (.mv (.k (.bool true)))]) (.ret)))
def r1103:List RR:=[.t 8]
theorem ok1103:okFn Go.Proofs.Tryz.prog 103 82 c1103 r1103 4=true:=by kernel_rfl
def c1104b0:SCode:=
 .seq (.seq (.reg [m_ 13 8,m_ 14 2,o_ 15 (.len 102 (.t 14)),o_ 16 (.bin .lss (.t 13) (.t 15))]) (.cond (.t 16) (.skip) (.exit 0))) (.seq (.block 1 (.seq (.reg [m_ 19 2,m_ 20 8,o_ 21 (.iad 126 7 (.t 19) (.t 20)),o_ 22 (.fad 126 0 0 (.t 21)),o_ 23 (.ld1 4 (.t 22))]) (.cond (.t 23) (.reg [o_ 24 (.fad 134 2 4 (.t 7)),o_ 25 (.ld1 24 (.t 24)),m_ 26 8,o_ 27 (.lit 3 1 8 [.t 26]),o_ 28 (.app 3 1 8 (.t 25) (.t 27)),o_ 29 (.fad 134 2 4 (.t 7)),n_ (.st1 24 (.t 29) (.t 28))]) (.reg [o_ 30 (.fad 134 2 4 (.t 7)),o_ 31 (.ld1 24 (.t 30)),o_ 32 (.lit 3 1 8 [.k (.int .i64 (-1))]),o_ 33 (.app 3 1 8 (.t 31) (.t 32)),o_ 34 (.fad 134 2 4 (.t 7)),n_ (.st1 24 (.t 34) (.t 33))])))) (.reg [m_ 17 8,o_ 18 (.bin .add (.t 17) (.k (.int .i64 1))),m_ 8 18]))
def c1104:SCode:=
 .seq (.reg [o_ 3 (.box 68 (.t 0)),o_ 6 (.alloc 134 [.cap 6 80 [],.cap 6 96 [],.v (.int .i64 0),.v (.int .i64 0),.cap 1 8 [],.cap 7 104 []])]) (.seq (.reg [o_ 9 (.ldn 68 3 (.t 3)),m_ 10 1,m_ 11 2,o_ 12 (.build 134 [.cap 6 80 [],.cap 6 96 [],.v (.int .i64 0),.v (.int .i64 0),.cap 1 8 [],.cap 7 104 []] [(0,0,3,.t 9),(1,3,1,.t 10),(3,5,1,.t 11)]),o_ 7 (.alloc 134 [.cap 6 80 [],.cap 6 96 [],.v (.int .i64 0),.v (.int .i64 0),.cap 1 8 [],.cap 7 104 []]),n_ (.stn 134 6 (.t 7) (.t 12))]) (.seq (.seq (.reg [o_ 8 (.mv (.k (.int .i64 0)))]) (.block 0 (.loop c1104b0))) (.seq (.reg [o_ 35 (.ldn 134 6 (.t 7)),n_ (.stn 134 6 (.t 6) (.t 35))]) (.ret))))
def r1104:List RR:=[.cn 6 6]
theorem ok1104:okFn Go.Proofs.Tryz.prog 104 36 c1104 r1104 3=true:=by kernel_rfl
def c1105b0:SCode:=
 .seq (.seq (.reg [m_ 75 11,o_ 76 (.fad 63 2 2 (.t 3)),o_ 77 (.ld1 61 (.t 76)),o_ 78 (.len 61 (.t 77)),o_ 79 (.bin .lss (.t 75) (.t 78))]) (.cond (.t 79) (.skip) (.exit 0))) (.seq (.block 1 (.seq (.dreg [0,0,2,0,14,31,0,64,0,448,960,2047,4095] [o_ 82 (.ldn 134 6 (.t 2)),o_ 83 (.fad 63 0 0 (.t 3)),o_ 84 (.ld1 3 (.t 83)),m_ 85 11,o_ 86 (.call (.f 140) [.t 84,.t 85]),o_ 87 (.call (.f 145) [.t 82,.t 86]),o_ 88 (.fad 63 2 2 (.t 3)),o_ 89 (.ld1 61 (.t 88)),m_ 90 11,o_ 91 (.iad 63 3 (.t 89) (.t 90)),o_ 92 (.ldn 63 3 (.t 91)),o_ 93 (.call (.f 105) [.t 87,.t 92]),o_ 94 (.not (.t 93))]) (.cond (.t 94) (.seq (.reg [o_ 4 (.mv (.k (.bool false)))]) (.ret)) (.skip)))) (.reg [m_ 80 11,o_ 81 (.bin .add (.t 80) (.k (.int .i64 1))),m_ 11 81]))
def c1105:SCode:=
 .seq (.reg [o_ 2 (.box 134 (.t 0)),o_ 3 (.box 63 (.t 1)),o_ 4 (.mv (.k (.bool false)))]) (.seq (.seq (.reg [o_ 12 (.fad 63 0 0 (.t 3)),o_ 13 (.ld1 3 (.t 12)),o_ 14 (.bin .eql (.t 13) (.k (.int .i64 1)))]) (.cond (.t 14) (.seq (.reg [o_ 15 (.ldn 134 6 (.t 2)),o_ 16 (.fad 63 1 1 (.t 3)),o_ 17 (.ld1 3 (.t 16)),o_ 18 (.call (.f 146) [.t 15,.t 17]),o_ 19 (.bin .lss (.t 18) (.k (.int .i64 0))),m_ 4 19]) (.ret)) (.skip))) (.seq (.seq (.reg [o_ 20 (.fad 63 0 0 (.t 3)),o_ 21 (.ld1 3 (.t 20)),o_ 22 (.bin .eql (.t 21) (.k (.int .i64 3)))]) (.cond (.t 22) (.seq (.reg [o_ 24 (.fad 134 0 0 (.t 2)),o_ 25 (.ldn 68 3 (.t 24)),o_ 26 (.fad 134 1 3 (.t 2)),o_ 27 (.ld1 3 (.t 26)),o_ 28 (.fad 63 1 1 (.t 3)),o_ 29 (.ld1 3 (.t 28)),o_ 30 (.call (.f 147) [.t 25,.t 27,.t 29]),m_ 23 30,o_ 31 (.ext (.t 23) 0),o_ 32 (.ext (.t 23) 1),m_ 5 31,m_ 6 32]) (.seq (.reg [m_ 33 5,
 o_ 34 (.bin .eql (.t 33) (.k (.int .i64 0))),m_ 4 34]) (.ret))) (.skip))) (.seq (.seq (.reg [o_ 36 (.ldn 63 3 (.t 3)),o_ 37 (.call (.f 148) [.t 36]),m_ 35 37,o_ 38 (.ext (.t 35) 0),o_ 39 (.ext (.t 35) 1),o_ 7 (.alloc 63 [.v (.int .i64 0),.v (.int .i64 0),.cap 3 40 []]),n_ (.stn 63 3 (.t 7) (.t 38)),m_ 8 39]) (.seq (.reg [o_ 40 (.fad 63 0 0 (.t 7)),o_ 41 (.ld1 3 (.t 40)),o_ 42 (.bin .eql (.t 41) (.k (.int .i64 3))),m_ 43 42,pm_ 44 43 8,p_ 45 43 (.len 61 (.t 44)),p_ 46 43 (.bin .gtr (.t 45) (.k (.int .i64 0))),o_ 47 (.pick (.t 43) (.t 46) (.k (.bool false)))]) (.cond (.t 47) (.seq (.reg [o_ 49 (.fad 134 0 0 (.t 2)),o_ 50 (.ldn 68 3 (.t 49)),o_ 51 (.fad 134 1 3 (.t 2)),o_ 52 (.ld1 3 (.t 51)),o_ 53 (.fad 63 1 1 (.t 7)),o_ 54 (.ld1 3 (.t 53)),o_ 55 (.call (.f 147) [.t 50,.t 52,.t 54]),m_ 48 55,o_ 56 (.ext (.t 48) 0),o_ 57 (.ext (.t 48) 1),m_ 9 56,m_ 10 57]) (.seq (.reg [m_ 58 9,
 o_ 59 (.bin .eql (.t 58) (.k (.int .i64 4)))]) (.cond (.t 59) (.seq (.reg [m_ 60 8,o_ 61 (.len 61 (.t 60)),o_ 62 (.fad 134 0 0 (.t 2)),o_ 63 (.fad 68 0 0 (.t 62)),o_ 64 (.ld1 65 (.t 63)),m_ 65 10,o_ 66 (.iad 104 6 (.t 64) (.t 65)),o_ 67 (.fad 104 0 0 (.t 66)),o_ 68 (.ld1 102 (.t 67)),o_ 69 (.len 102 (.t 68)),o_ 70 (.bin .add (.t 69) (.k (.int .i64 1))),o_ 71 (.bin .eql (.t 61) (.t 70))]) (.cond (.t 71) (.seq (.reg [o_ 72 (.ldn 134 6 (.t 2)),m_ 73 8,o_ 74 (.call (.f 149) [.t 72,.t 73]),m_ 4 74]) (.ret)) (.skip))) (.skip)))) (.skip)))) (.seq (.seq (.reg [o_ 11 (.mv (.k (.int .i64 0)))]) (.block 0 (.loop c1105b0))) (.seq (.reg [o_ 4 (.mv (.k (.bool true)))]) (.ret))))))
def r1105:List RR:=[.t 4]
theorem ok1105:okFn Go.Proofs.Tryz.prog 105 95 c1105 r1105 2=true:=by kernel_rfl
def c1106b0:SCode:=
 .seq (.seq (.reg [m_ 10 9,m_ 11 2,o_ 12 (.len 61 (.t 11)),o_ 13 (.bin .lss (.t 10) (.t 12))]) (.cond (.t 13) (.skip) (.exit 0))) (.seq (.block 1 (.seq (.dreg [0,1,3,0,15,31,63,0,255,511,1023,2047,4095,4095,4095,28671,61439,4095,262143,524287,1048575,2097151,4194303,8388607,16777215,4194303,67108863,134217727,268435455,4194303,1073741823,2147483647,4294967295,8589934591,17179869183,34359738367,34359738367,34359738367,240518168575,515396075519,1099511627775,2199023255551,4398046511103,8796093022207] [o_ 16 (.fad 134 0 0 (.t 4)),o_ 17 (.fad 68 0 0 (.t 16)),o_ 18 (.ld1 65 (.t 17)),m_ 19 1,o_ 20 (.iad 104 6 (.t 18) (.t 19)),o_ 21 (.fad 104 0 0 (.t 20)),o_ 22 (.ld1 102 (.t 21)),m_ 23 9,o_ 24 (.iad 126 7 (.t 22) (.t 23)),o_ 25 (.fad 126 0 0 (.t 24)),o_ 26 (.ld1 4 (.t 25)),m_ 27 26,p_ 28 27 (.ldn 134 6 (.t 4)),pm_ 29 27 2,pm_ 30 27 9,
 p_ 31 27 (.iad 63 3 (.t 29) (.t 30)),p_ 32 27 (.ldn 63 3 (.t 31)),pm_ 33 27 3,p_ 34 27 (.call (.f 150) [.t 28,.t 32,.t 33]),p_ 35 27 (.not (.t 34)),o_ 36 (.pick (.t 27) (.t 35) (.k (.bool false))),m_ 37 36,q_ 38 37 (.fad 134 0 0 (.t 4)),q_ 39 37 (.fad 68 0 0 (.t 38)),q_ 40 37 (.ld1 65 (.t 39)),qm_ 41 37 1,q_ 42 37 (.iad 104 6 (.t 40) (.t 41)),q_ 43 37 (.fad 104 0 0 (.t 42)),q_ 44 37 (.ld1 102 (.t 43)),qm_ 45 37 9,q_ 46 37 (.iad 126 7 (.t 44) (.t 45)),q_ 47 37 (.fad 126 0 0 (.t 46)),q_ 48 37 (.ld1 4 (.t 47)),q_ 49 37 (.not (.t 48)),qm_ 50 37 49,p_ 51 50 (.ldn 134 6 (.t 4)),pm_ 52 50 2,pm_ 53 50 9,p_ 54 50 (.iad 63 3 (.t 52) (.t 53)),p_ 55 50 (.ldn 63 3 (.t 54)),p_ 56 50 (.call (.f 105) [.t 51,.t 55]),p_ 57 50 (.not (.t 56)),q_ 58 37 (.pick (.t 50) (.t 57) (.k (.bool false))),o_ 59 (.pick (.t 37) (.k (.bool true)) (.t 58))]) (.cond (.t 59) (.seq (.reg [o_ 8 (.mv (.k (.bool false)))])
 (.ret)) (.skip)))) (.reg [m_ 14 9,o_ 15 (.bin .add (.t 14) (.k (.int .i64 1))),m_ 9 15]))
def c1106:SCode:=
 .seq (.reg [o_ 4 (.box 134 (.t 0)),o_ 8 (.mv (.k (.bool false)))]) (.seq (.seq (.reg [o_ 9 (.mv (.k (.int .i64 0)))]) (.block 0 (.loop c1106b0))) (.seq (.reg [o_ 8 (.mv (.k (.bool true)))]) (.ret)))
def r1106:List RR:=[.t 8]
theorem ok1106:okFn Go.Proofs.Tryz.prog 106 60 c1106 r1106 4=true:=by kernel_rfl
def c1107b0:SCode:=
 .seq (.seq (.reg [m_ 5 4,m_ 6 0,o_ 7 (.len 102 (.t 6)),o_ 8 (.bin .lss (.t 5) (.t 7))]) (.cond (.t 8) (.skip) (.exit 0))) (.seq (.block 1 (.dreg [0,0,0,6,14,30,62,126,0,0,768,1792,3840,8190,0,0,49152,114688,245760,524286,1048574,2097150,4194303,8388607] [m_ 11 3,m_ 12 0,m_ 13 4,o_ 14 (.iad 126 7 (.t 12) (.t 13)),o_ 15 (.fad 126 1 1 (.t 14)),o_ 16 (.ldn 63 3 (.t 15)),o_ 17 (.lit 63 3 40 [.t 16]),o_ 18 (.call (.f 108) [.t 17]),m_ 19 0,m_ 20 4,o_ 21 (.iad 126 7 (.t 19) (.t 20)),o_ 22 (.fad 126 2 4 (.t 21)),o_ 23 (.ld1 61 (.t 22)),o_ 24 (.call (.f 108) [.t 23]),m_ 25 0,m_ 26 4,o_ 27 (.iad 126 7 (.t 25) (.t 26)),o_ 28 (.fad 126 4 6 (.t 27)),o_ 29 (.ld1 61 (.t 28)),o_ 30 (.call (.f 108) [.t 29]),o_ 31 (.best true [.t 24,.t 30]),o_ 32 (.best true [.t 18,.t 31]),o_ 33 (.best true [.t 11,.t 32]),m_ 3 33])) (.reg [m_ 9 4,o_ 10 (.bin .add (.t 9) (.k (.int .i64 1))),
 m_ 4 10]))
def c1107:SCode:=
 .seq (.reg [o_ 2 (.mv (.k (.int .i64 0)))]) (.seq (.reg [o_ 3 (.mv (.k (.int .i64 (-1))))]) (.seq (.seq (.reg [o_ 4 (.mv (.k (.int .i64 0)))]) (.block 0 (.loop c1107b0))) (.seq (.reg [m_ 34 3,m_ 2 34]) (.ret))))
def r1107:List RR:=[.t 2]
theorem ok1107:okFn Go.Proofs.Tryz.prog 107 35 c1107 r1107 1=true:=by kernel_rfl
def c1108b0:SCode:=
 .seq (.seq (.reg [m_ 5 4,m_ 6 0,o_ 7 (.len 61 (.t 6)),o_ 8 (.bin .lss (.t 5) (.t 7))]) (.cond (.t 8) (.skip) (.exit 0))) (.seq (.block 1 (.seq (.seq (.reg [m_ 11 0,m_ 12 4,o_ 13 (.iad 63 3 (.t 11) (.t 12)),o_ 14 (.fad 63 0 0 (.t 13)),o_ 15 (.ld1 3 (.t 14)),o_ 16 (.bin .eql (.t 15) (.k (.int .i64 3)))]) (.cond (.t 16) (.reg [m_ 17 3,m_ 18 0,m_ 19 4,o_ 20 (.iad 63 3 (.t 18) (.t 19)),o_ 21 (.fad 63 1 1 (.t 20)),o_ 22 (.ld1 3 (.t 21)),o_ 23 (.best true [.t 17,.t 22]),m_ 3 23]) (.skip))) (.reg [m_ 24 3,m_ 25 0,m_ 26 4,o_ 27 (.iad 63 3 (.t 25) (.t 26)),o_ 28 (.fad 63 2 2 (.t 27)),o_ 29 (.ld1 61 (.t 28)),o_ 30 (.call (.f 108) [.t 29]),o_ 31 (.best true [.t 24,.t 30]),m_ 3 31]))) (.reg [m_ 9 4,o_ 10 (.bin .add (.t 9) (.k (.int .i64 1))),m_ 4 10]))
def c1108:SCode:=
 .seq (.reg [o_ 2 (.mv (.k (.int .i64 0)))]) (.seq (.reg [o_ 3 (.mv (.k (.int .i64 (-1))))]) (.seq (.seq (.reg [o_ 4 (.mv (.k (.int .i64 0)))]) (.block 0 (.loop c1108b0))) (.seq (.reg [m_ 32 3,m_ 2 32]) (.ret))))
def r1108:List RR:=[.t 2]
theorem ok1108:okFn Go.Proofs.Tryz.prog 108 33 c1108 r1108 1=true:=by kernel_rfl
def c1109:SCode:=
 .seq (.reg [o_ 1 (.box 68 (.t 0)),o_ 2 (.mv (.k (.int .i64 0)))]) (.seq (.reg [o_ 3 (.fad 68 0 0 (.t 1)),o_ 4 (.ld1 65 (.t 3)),o_ 5 (.len 65 (.t 4)),m_ 2 5]) (.ret))
def r1109:List RR:=[.t 2]
theorem ok1109:okFn Go.Proofs.Tryz.prog 109 6 c1109 r1109 1=true:=by kernel_rfl
def c1110b0:SCode:=
 .seq (.seq (.reg [m_ 7 6,m_ 8 1,o_ 9 (.bin .lss (.t 7) (.t 8)),m_ 10 9,pm_ 11 10 6,p_ 12 10 (.fad 68 0 0 (.t 2)),p_ 13 10 (.ld1 65 (.t 12)),p_ 14 10 (.len 65 (.t 13)),p_ 15 10 (.bin .lss (.t 11) (.t 14)),o_ 16 (.pick (.t 10) (.t 15) (.k (.bool false)))]) (.cond (.t 16) (.skip) (.exit 0))) (.seq (.block 1 (.seq (.reg [o_ 19 (.fad 68 0 0 (.t 2)),o_ 20 (.ld1 65 (.t 19)),m_ 21 6,o_ 22 (.iad 104 6 (.t 20) (.t 21)),o_ 23 (.fad 104 2 2 (.t 22)),o_ 24 (.ld1 4 (.t 23))]) (.cond (.t 24) (.reg [m_ 25 5,o_ 26 (.bin .add (.t 25) (.k (.int .i64 1))),m_ 5 26]) (.skip)))) (.reg [m_ 17 6,o_ 18 (.bin .add (.t 17) (.k (.int .i64 1))),m_ 6 18]))
def c1110:SCode:=
 .seq (.reg [o_ 2 (.box 68 (.t 0)),o_ 4 (.mv (.k (.int .i64 0)))]) (.seq (.reg [o_ 5 (.mv (.k (.int .i64 0)))]) (.seq (.seq (.reg [o_ 6 (.mv (.k (.int .i64 0)))]) (.block 0 (.loop c1110b0))) (.seq (.reg [m_ 27 5,m_ 4 27]) (.ret))))
def r1110:List RR:=[.t 4]
theorem ok1110:okFn Go.Proofs.Tryz.prog 110 28 c1110 r1110 2=true:=by kernel_rfl
def c1141b0:SCode:=
 .seq (.seq (.reg [m_ 65 7,o_ 66 (.fad 126 2 4 (.t 4)),o_ 67 (.ld1 61 (.t 66)),o_ 68 (.len 61 (.t 67)),o_ 69 (.bin .lss (.t 65) (.t 68))]) (.cond (.t 69) (.skip) (.exit 0))) (.seq (.block 1 (.seq (.reg [o_ 72 (.fad 126 2 4 (.t 4)),o_ 73 (.ld1 61 (.t 72)),m_ 74 7,o_ 75 (.iad 63 3 (.t 73) (.t 74)),o_ 76 (.ldn 63 3 (.t 75)),m_ 77 2,m_ 78 7,o_ 79 (.bin .add (.t 77) (.t 78)),o_ 80 (.call (.f 142) [.t 76,.t 79]),o_ 81 (.not (.t 80))]) (.cond (.t 81) (.seq (.reg [o_ 6 (.mv (.k (.bool false)))]) (.ret)) (.skip)))) (.reg [m_ 70 7,o_ 71 (.bin .add (.t 70) (.k (.int .i64 1))),m_ 7 71]))
def c1141b1:SCode:=
 .seq (.seq (.reg [m_ 82 8,o_ 83 (.fad 126 4 6 (.t 4)),o_ 84 (.ld1 61 (.t 83)),o_ 85 (.len 61 (.t 84)),o_ 86 (.bin .lss (.t 82) (.t 85))]) (.cond (.t 86) (.skip) (.exit 2))) (.seq (.block 3 (.seq (.dreg [0,1,0,7,15,0,0,64,192,480,1023,2047] [o_ 89 (.fad 126 4 6 (.t 4)),o_ 90 (.ld1 61 (.t 89)),m_ 91 8,o_ 92 (.iad 63 3 (.t 90) (.t 91)),o_ 93 (.ldn 63 3 (.t 92)),m_ 94 2,o_ 95 (.fad 126 2 4 (.t 4)),o_ 96 (.ld1 61 (.t 95)),o_ 97 (.len 61 (.t 96)),o_ 98 (.bin .add (.t 94) (.t 97)),o_ 99 (.call (.f 142) [.t 93,.t 98]),o_ 100 (.not (.t 99))]) (.cond (.t 100) (.seq (.reg [o_ 6 (.mv (.k (.bool false)))]) (.ret)) (.skip)))) (.reg [m_ 87 8,o_ 88 (.bin .add (.t 87) (.k (.int .i64 1))),m_ 8 88]))
def c1141:SCode:=
 .seq (.reg [o_ 3 (.box 68 (.t 0)),o_ 4 (.box 126 (.t 1)),o_ 6 (.mv (.k (.bool false)))]) (.seq (.seq (.reg [o_ 9 (.fad 126 0 0 (.t 4)),o_ 10 (.ld1 4 (.t 9)),o_ 11 (.not (.t 10))]) (.cond (.t 11) (.seq (.reg [o_ 12 (.fad 126 1 1 (.t 4)),o_ 13 (.ldn 63 3 (.t 12)),m_ 14 2,o_ 15 (.call (.f 142) [.t 13,.t 14]),m_ 16 15,p_ 17 16 (.fad 126 2 4 (.t 4)),p_ 18 16 (.ld1 61 (.t 17)),p_ 19 16 (.len 61 (.t 18)),p_ 20 16 (.fad 126 4 6 (.t 4)),p_ 21 16 (.ld1 61 (.t 20)),p_ 22 16 (.len 61 (.t 21)),p_ 23 16 (.bin .add (.t 19) (.t 22)),p_ 24 16 (.bin .eql (.t 23) (.k (.int .i64 0))),o_ 25 (.pick (.t 16) (.t 24) (.k (.bool false))),m_ 26 25,p_ 27 26 (.fad 126 3 5 (.t 4)),p_ 28 26 (.ld1 3 (.t 27)),p_ 29 26 (.bin .eql (.t 28) (.k (.int .i64 0))),o_ 30 (.pick (.t 26) (.t 29) (.k (.bool false))),m_ 6 30]) (.ret)) (.skip)))
 (.seq (.seq (.dreg [0,1,3,7,15,31,63,127,255,511,1023,2047,4095,2047,10239,26623,59391,131071,262143,524287,1048575,2097151,4194303,8388607,2097151,18874367,2097151,69206015,253755391,522190847,1059061759,2132803583,4294967295,8589934591] [o_ 31 (.fad 126 1 1 (.t 4)),o_ 32 (.ldn 63 3 (.t 31)),o_ 33 (.call (.f 143) [.t 32]),o_ 34 (.not (.t 33)),m_ 35 34,q_ 36 35 (.fad 126 2 4 (.t 4)),q_ 37 35 (.ld1 61 (.t 36)),q_ 38 35 (.len 61 (.t 37)),q_ 39 35 (.bin .gtr (.t 38) (.k (.int .i64 12))),o_ 40 (.pick (.t 35) (.k (.bool true)) (.t 39)),m_ 41 40,q_ 42 41 (.fad 126 3 5 (.t 4)),q_ 43 41 (.ld1 3 (.t 42)),q_ 44 41 (.fad 68 0 0 (.t 3)),q_ 45 41 (.ld1 65 (.t 44)),q_ 46 41 (.len 65 (.t 45)),q_ 47 41 (.bin .sub (.t 46) (.k (.int .i64 1))),q_ 48 41 (.call (.f 102) [.t 43,.k (.int .i64 0),.t 47]),q_ 49 41 (.not (.t 48)),o_ 50 (.pick (.t 41) (.k (.bool true)) (.t 49)),
 m_ 51 50,q_ 52 51 (.fad 126 4 6 (.t 4)),q_ 53 51 (.ld1 61 (.t 52)),q_ 54 51 (.len 61 (.t 53)),q_ 55 51 (.fad 68 0 0 (.t 3)),q_ 56 51 (.ld1 65 (.t 55)),q_ 57 51 (.fad 126 3 5 (.t 4)),q_ 58 51 (.ld1 3 (.t 57)),q_ 59 51 (.iad 104 6 (.t 56) (.t 58)),q_ 60 51 (.fad 104 0 0 (.t 59)),q_ 61 51 (.ld1 102 (.t 60)),q_ 62 51 (.len 102 (.t 61)),q_ 63 51 (.bin .neq (.t 54) (.t 62)),o_ 64 (.pick (.t 51) (.k (.bool true)) (.t 63))]) (.cond (.t 64) (.seq (.reg [o_ 6 (.mv (.k (.bool false)))]) (.ret)) (.skip))) (.seq (.seq (.reg [o_ 7 (.mv (.k (.int .i64 0)))]) (.block 0 (.loop c1141b0))) (.seq (.seq (.reg [o_ 8 (.mv (.k (.int .i64 0)))]) (.block 2 (.loop c1141b1))) (.seq (.reg [o_ 6 (.mv (.k (.bool true)))]) (.ret))))))
def r1141:List RR:=[.t 6]
theorem ok1141:okFn Go.Proofs.Tryz.prog 141 101 c1141 r1141 3=true:=by kernel_rfl
def c1142:SCode:=
 .seq (.reg [o_ 2 (.box 63 (.t 0)),o_ 4 (.mv (.k (.bool false)))]) (.seq (.reg [o_ 5 (.ldn 63 3 (.t 2)),m_ 6 1,o_ 7 (.call (.f 69) [.t 5,.t 6,.k (.int .i64 65536)]),m_ 4 7]) (.ret))
def r1142:List RR:=[.t 4]
theorem ok1142:okFn Go.Proofs.Tryz.prog 142 8 c1142 r1142 2=true:=by kernel_rfl
def c1143:SCode:=
 .seq (.reg [o_ 1 (.box 63 (.t 0)),o_ 2 (.mv (.k (.bool false)))]) (.seq (.reg [o_ 3 (.fad 63 0 0 (.t 1)),o_ 4 (.ld1 3 (.t 3)),o_ 5 (.bin .eql (.t 4) (.k (.int .i64 0))),m_ 6 5,p_ 7 6 (.fad 63 1 1 (.t 1)),p_ 8 6 (.ld1 3 (.t 7)),p_ 9 6 (.bin .eql (.t 8) (.k (.int .i64 0))),o_ 10 (.pick (.t 6) (.t 9) (.k (.bool false))),m_ 11 10,p_ 12 11 (.fad 63 2 2 (.t 1)),p_ 13 11 (.ld1 61 (.t 12)),p_ 14 11 (.len 61 (.t 13)),p_ 15 11 (.bin .eql (.t 14) (.k (.int .i64 0))),o_ 16 (.pick (.t 11) (.t 15) (.k (.bool false))),m_ 2 16]) (.ret))
def r1143:List RR:=[.t 2]
theorem ok1143:okFn Go.Proofs.Tryz.prog 143 17 c1143 r1143 1=true:=by kernel_rfl
def c1144b0:SCode:=
 .seq (.seq (.reg [m_ 35 5,o_ 36 (.fad 106 1 1 (.t 3)),o_ 37 (.ld1 102 (.t 36)),o_ 38 (.len 102 (.t 37)),o_ 39 (.bin .lss (.t 35) (.t 38))]) (.cond (.t 39) (.skip) (.exit 0))) (.seq (.block 1 (.seq (.dreg [0,0,2,0,14,30,0,127,255] [o_ 42 (.ldn 68 3 (.t 2)),o_ 43 (.fad 106 1 1 (.t 3)),o_ 44 (.ld1 102 (.t 43)),m_ 45 5,o_ 46 (.iad 126 7 (.t 44) (.t 45)),o_ 47 (.ldn 126 7 (.t 46)),m_ 48 5,o_ 49 (.call (.f 141) [.t 42,.t 47,.t 48]),o_ 50 (.not (.t 49))]) (.cond (.t 50) (.seq (.reg [o_ 4 (.mv (.k (.bool false)))]) (.ret)) (.skip)))) (.reg [m_ 40 5,o_ 41 (.bin .add (.t 40) (.k (.int .i64 1))),m_ 5 41]))
def c1144b1:SCode:=
 .seq (.seq (.reg [m_ 51 6,o_ 52 (.fad 106 2 2 (.t 3)),o_ 53 (.ld1 61 (.t 52)),o_ 54 (.len 61 (.t 53)),o_ 55 (.bin .lss (.t 51) (.t 54))]) (.cond (.t 55) (.skip) (.exit 2))) (.seq (.block 3 (.seq (.dreg [0,1,0,7,15,0,32,96,255,511] [o_ 58 (.fad 106 2 2 (.t 3)),o_ 59 (.ld1 61 (.t 58)),m_ 60 6,o_ 61 (.iad 63 3 (.t 59) (.t 60)),o_ 62 (.ldn 63 3 (.t 61)),o_ 63 (.fad 106 1 1 (.t 3)),o_ 64 (.ld1 102 (.t 63)),o_ 65 (.len 102 (.t 64)),o_ 66 (.call (.f 142) [.t 62,.t 65]),o_ 67 (.not (.t 66))]) (.cond (.t 67) (.seq (.reg [o_ 4 (.mv (.k (.bool false)))]) (.ret)) (.skip)))) (.reg [m_ 56 6,o_ 57 (.bin .add (.t 56) (.k (.int .i64 1))),m_ 6 57]))
def c1144:SCode:=
 .seq (.reg [o_ 2 (.box 68 (.t 0)),o_ 3 (.box 106 (.t 1)),o_ 4 (.mv (.k (.bool false)))]) (.seq (.seq (.dreg [0,1,0,4,12,28,63,127,255,511,1023,2047,4095,8191,16383,32767,65535,131071,32767,294911,32767,1081343,3964927,8159231,16547839,33325055,67108863,134217727] [o_ 7 (.fad 106 0 0 (.t 3)),o_ 8 (.ld1 3 (.t 7)),o_ 9 (.fad 68 0 0 (.t 2)),o_ 10 (.ld1 65 (.t 9)),o_ 11 (.len 65 (.t 10)),o_ 12 (.bin .sub (.t 11) (.k (.int .i64 1))),o_ 13 (.call (.f 102) [.t 8,.k (.int .i64 0),.t 12]),o_ 14 (.not (.t 13)),m_ 15 14,q_ 16 15 (.fad 106 1 1 (.t 3)),q_ 17 15 (.ld1 102 (.t 16)),q_ 18 15 (.len 102 (.t 17)),q_ 19 15 (.bin .gtr (.t 18) (.k (.int .i64 12))),o_ 20 (.pick (.t 15) (.k (.bool true)) (.t 19)),m_ 21 20,q_ 22 21 (.fad 106 2 2 (.t 3)),q_ 23 21 (.ld1 61 (.t 22)),q_ 24 21 (.len 61 (.t 23)),q_ 25 21 (.fad 68 0 0 (.t 2)),q_ 26 21 (.ld1 65 (.t 25)),
 q_ 27 21 (.fad 106 0 0 (.t 3)),q_ 28 21 (.ld1 3 (.t 27)),q_ 29 21 (.iad 104 6 (.t 26) (.t 28)),q_ 30 21 (.fad 104 0 0 (.t 29)),q_ 31 21 (.ld1 102 (.t 30)),q_ 32 21 (.len 102 (.t 31)),q_ 33 21 (.bin .neq (.t 24) (.t 32)),o_ 34 (.pick (.t 21) (.k (.bool true)) (.t 33))]) (.cond (.t 34) (.seq (.reg [o_ 4 (.mv (.k (.bool false)))]) (.ret)) (.skip))) (.seq (.seq (.reg [o_ 5 (.mv (.k (.int .i64 0)))]) (.block 0 (.loop c1144b0))) (.seq (.seq (.reg [o_ 6 (.mv (.k (.int .i64 0)))]) (.block 2 (.loop c1144b1))) (.seq (.seq (.reg [o_ 68 (.fad 68 0 0 (.t 2)),o_ 69 (.ld1 65 (.t 68)),o_ 70 (.fad 106 0 0 (.t 3)),o_ 71 (.ld1 3 (.t 70)),o_ 72 (.iad 104 6 (.t 69) (.t 71)),o_ 73 (.fad 104 2 2 (.t 72)),o_ 74 (.ld1 4 (.t 73))]) (.cond (.t 74) (.seq (.reg [o_ 75 (.fad 106 3 3 (.t 3)),o_ 76 (.ldn 63 3 (.t 75)),o_ 77 (.fad 106 1 1 (.t 3)),o_ 78 (.ld1 102 (.t 77)),o_ 79 (.len 102 (.t 78)),
 o_ 80 (.call (.f 142) [.t 76,.t 79]),m_ 4 80]) (.ret)) (.skip))) (.seq (.reg [o_ 81 (.fad 106 3 3 (.t 3)),o_ 82 (.ldn 63 3 (.t 81)),o_ 83 (.call (.f 143) [.t 82]),m_ 4 83]) (.ret))))))
def r1144:List RR:=[.t 4]
theorem ok1144:okFn Go.Proofs.Tryz.prog 144 84 c1144 r1144 2=true:=by kernel_rfl
def c1145b0:SCode:=
 .seq (.seq (.reg [m_ 12 6,m_ 13 1,o_ 14 (.bin .lss (.t 12) (.t 13))]) (.cond (.t 14) (.skip) (.exit 0))) (.seq (.block 1 (.reg [o_ 17 (.fad 134 2 4 (.t 5)),o_ 18 (.ld1 24 (.t 17)),o_ 19 (.lit 3 1 8 [.k (.int .i64 (-1))]),o_ 20 (.app 3 1 8 (.t 18) (.t 19)),o_ 21 (.fad 134 2 4 (.t 5)),n_ (.st1 24 (.t 21) (.t 20))])) (.reg [m_ 15 6,o_ 16 (.bin .add (.t 15) (.k (.int .i64 1))),m_ 6 16]))
def c1145:SCode:=
 .seq (.reg [o_ 2 (.box 134 (.t 0)),o_ 4 (.alloc 134 [.cap 6 80 [],.cap 6 96 [],.v (.int .i64 0),.v (.int .i64 0),.cap 1 8 [],.cap 7 104 []])]) (.seq (.reg [o_ 7 (.ldn 134 6 (.t 2)),o_ 5 (.alloc 134 [.cap 6 80 [],.cap 6 96 [],.v (.int .i64 0),.v (.int .i64 0),.cap 1 8 [],.cap 7 104 []]),n_ (.stn 134 6 (.t 5) (.t 7))]) (.seq (.reg [o_ 8 (.fad 134 2 4 (.t 2)),o_ 9 (.ld1 24 (.t 8)),o_ 10 (.call (.f 20) [.t 9]),o_ 11 (.fad 134 2 4 (.t 5)),n_ (.st1 24 (.t 11) (.t 10))]) (.seq (.seq (.reg [o_ 6 (.mv (.k (.int .i64 0)))]) (.block 0 (.loop c1145b0))) (.seq (.reg [o_ 22 (.ldn 134 6 (.t 5)),n_ (.stn 134 6 (.t 4) (.t 22))]) (.ret)))))
def r1145:List RR:=[.cn 4 6]
theorem ok1145:okFn Go.Proofs.Tryz.prog 145 23 c1145 r1145 2=true:=by kernel_rfl
def c1146:SCode:=
 .seq (.reg [o_ 2 (.box 134 (.t 0)),o_ 4 (.mv (.k (.int .i64 0)))]) (.seq (.seq (.reg [m_ 5 1,o_ 6 (.fad 134 2 4 (.t 2)),o_ 7 (.ld1 24 (.t 6)),o_ 8 (.len 24 (.t 7)),o_ 9 (.bin .geq (.t 5) (.t 8))]) (.cond (.t 9) (.seq (.reg [o_ 4 (.mv (.k (.int .i64 (-1))))]) (.ret)) (.skip))) (.seq (.reg [o_ 10 (.fad 134 2 4 (.t 2)),o_ 11 (.ld1 24 (.t 10)),o_ 12 (.fad 134 2 4 (.t 2)),o_ 13 (.ld1 24 (.t 12)),o_ 14 (.len 24 (.t 13)),o_ 15 (.bin .sub (.t 14) (.k (.int .i64 1))),m_ 16 1,o_ 17 (.bin .sub (.t 15) (.t 16)),o_ 18 (.iad 3 1 (.t 11) (.t 17)),o_ 19 (.ld1 3 (.t 18)),m_ 4 19]) (.ret)))
def r1146:List RR:=[.t 4]
theorem ok1146:okFn Go.Proofs.Tryz.prog 146 20 c1146 r1146 2=true:=by kernel_rfl
def c1147b0:SCode:=
 .seq (.seq (.reg [m_ 10 8,o_ 11 (.ldn 68 3 (.t 3)),o_ 12 (.call (.f 109) [.t 11]),o_ 13 (.bin .lss (.t 10) (.t 12))]) (.cond (.t 13) (.skip) (.exit 0))) (.seq (.block 1 (.seq (.seq (.reg [o_ 16 (.ldn 68 3 (.t 3)),m_ 17 1,m_ 18 8,o_ 19 (.call (.f 74) [.t 16,.t 17,.t 18]),m_ 20 2,o_ 21 (.bin .eql (.t 19) (.t 20)),m_ 22 21,pm_ 23 22 2,p_ 24 22 (.bin .geq (.t 23) (.k (.int .i64 0))),o_ 25 (.pick (.t 22) (.t 24) (.k (.bool false)))]) (.cond (.t 25) (.seq (.reg [m_ 26 8,o_ 6 (.mv (.k (.int .i64 3))),m_ 7 26]) (.ret)) (.skip))) (.seq (.seq (.reg [o_ 27 (.ldn 68 3 (.t 3)),m_ 28 1,m_ 29 8,o_ 30 (.call (.f 75) [.t 27,.t 28,.t 29]),m_ 31 2,o_ 32 (.bin .eql (.t 30) (.t 31)),m_ 33 32,pm_ 34 33 2,p_ 35 33 (.bin .geq (.t 34) (.k (.int .i64 0))),o_ 36 (.pick (.t 33) (.t 35) (.k (.bool false)))]) (.cond (.t 36) (.seq (.reg [m_ 37 8,o_ 6 (.mv (.k (.int .i64 4))),m_ 7 37]) (.ret)) (.skip))) (.seq (.reg
 [o_ 38 (.ldn 68 3 (.t 3)),m_ 39 1,m_ 40 8,o_ 41 (.call (.f 77) [.t 38,.t 39,.t 40]),m_ 42 2,o_ 43 (.bin .eql (.t 41) (.t 42)),m_ 44 43,pm_ 45 44 2,p_ 46 44 (.bin .geq (.t 45) (.k (.int .i64 0))),o_ 47 (.pick (.t 44) (.t 46) (.k (.bool false)))]) (.cond (.t 47) (.seq (.reg [m_ 48 8,o_ 6 (.mv (.k (.int .i64 6))),m_ 7 48]) (.ret)) (.skip)))))) (.reg [m_ 14 8,o_ 15 (.bin .add (.t 14) (.k (.int .i64 1))),m_ 8 15]))
def c1147b1:SCode:=
 .seq (.seq (.reg [m_ 49 9,o_ 50 (.fad 68 1 1 (.t 3)),o_ 51 (.ld1 66 (.t 50)),o_ 52 (.len 66 (.t 51)),o_ 53 (.bin .lss (.t 49) (.t 52))]) (.cond (.t 53) (.skip) (.exit 2))) (.seq (.block 3 (.seq (.reg [o_ 56 (.ldn 68 3 (.t 3)),m_ 57 1,m_ 58 9,o_ 59 (.call (.f 76) [.t 56,.t 57,.t 58]),m_ 60 2,o_ 61 (.bin .eql (.t 59) (.t 60)),m_ 62 61,pm_ 63 62 2,p_ 64 62 (.bin .geq (.t 63) (.k (.int .i64 0))),o_ 65 (.pick (.t 62) (.t 64) (.k (.bool false)))]) (.cond (.t 65) (.seq (.reg [m_ 66 9,o_ 6 (.mv (.k (.int .i64 5))),m_ 7 66]) (.ret)) (.skip)))) (.reg [m_ 54 9,o_ 55 (.bin .add (.t 54) (.k (.int .i64 1))),m_ 9 55]))
def c1147:SCode:=
 .seq (.reg [o_ 3 (.box 68 (.t 0)),o_ 6 (.mv (.k (.int .i64 0))),o_ 7 (.mv (.k (.int .i64 0)))]) (.seq (.seq (.reg [o_ 8 (.mv (.k (.int .i64 0)))]) (.block 0 (.loop c1147b0))) (.seq (.seq (.reg [o_ 9 (.mv (.k (.int .i64 0)))]) (.block 2 (.loop c1147b1))) (.seq (.reg [o_ 6 (.mv (.k (.int .i64 0))),o_ 7 (.mv (.k (.int .i64 0)))]) (.ret))))
def r1147:List RR:=[.t 6,.t 7]
theorem ok1147:okFn Go.Proofs.Tryz.prog 147 67 c1147 r1147 3=true:=by kernel_rfl
def c1148:SCode:=
 .seq (.reg [o_ 1 (.box 63 (.t 0)),o_ 2 (.alloc 63 [.v (.int .i64 0),.v (.int .i64 0),.cap 3 40 []]),o_ 3 (.mv (.nil 3 40))]) (.seq (.seq (.reg [o_ 6 (.fad 63 0 0 (.t 1)),o_ 7 (.ld1 3 (.t 6)),o_ 8 (.bin .neq (.t 7) (.k (.int .i64 6))),m_ 9 8,q_ 10 9 (.fad 63 2 2 (.t 1)),q_ 11 9 (.ld1 61 (.t 10)),q_ 12 9 (.len 61 (.t 11)),q_ 13 9 (.bin .neq (.t 12) (.k (.int .i64 2))),o_ 14 (.pick (.t 9) (.k (.bool true)) (.t 13))]) (.cond (.t 14) (.seq (.reg [o_ 15 (.ldn 63 3 (.t 1)),o_ 16 (.call (.f 44) [.t 15]),n_ (.stn 63 3 (.t 2) (.t 16)),o_ 3 (.mv (.nil 3 40))]) (.ret)) (.skip))) (.seq (.reg [o_ 18 (.fad 63 2 2 (.t 1)),o_ 19 (.ld1 61 (.t 18)),o_ 20 (.iad 63 3 (.t 19) (.k (.int .i64 0))),o_ 21 (.ldn 63 3 (.t 20)),o_ 22 (.call (.f 148) [.t 21]),m_ 17 22,o_ 23 (.ext (.t 17) 0),o_ 24 (.ext (.t 17) 1),o_ 4 (.alloc 63 [.v (.int .i64 0),.v (.int .i64 0),.cap 3 40 []]),n_ (.stn 63 3 (.t 4) (.t 23)),
 m_ 5 24]) (.seq (.dreg [0,0,0,4,12,28,60,124,254,511,1023] [o_ 25 (.ldn 63 3 (.t 4)),m_ 26 5,o_ 27 (.fad 63 2 2 (.t 1)),o_ 28 (.ld1 61 (.t 27)),o_ 29 (.iad 63 3 (.t 28) (.k (.int .i64 1))),o_ 30 (.ldn 63 3 (.t 29)),o_ 31 (.call (.f 44) [.t 30]),o_ 32 (.lit 63 3 40 [.t 31]),o_ 33 (.app 63 3 40 (.t 26) (.t 32)),n_ (.stn 63 3 (.t 2) (.t 25)),m_ 3 33]) (.ret))))
def r1148:List RR:=[.cn 2 3,.t 3]
theorem ok1148:okFn Go.Proofs.Tryz.prog 148 34 c1148 r1148 1=true:=by kernel_rfl
def c1149b0:SCode:=
 .seq (.seq (.reg [m_ 9 5,m_ 10 1,o_ 11 (.len 61 (.t 10)),o_ 12 (.bin .sub (.t 11) (.k (.int .i64 1))),o_ 13 (.bin .lss (.t 9) (.t 12))]) (.cond (.t 13) (.skip) (.exit 0))) (.seq (.block 1 (.seq (.dreg [0,0,0,6,14,31,63] [o_ 16 (.ldn 134 6 (.t 2)),m_ 17 1,m_ 18 5,o_ 19 (.iad 63 3 (.t 17) (.t 18)),o_ 20 (.ldn 63 3 (.t 19)),o_ 21 (.call (.f 105) [.t 16,.t 20]),o_ 22 (.not (.t 21))]) (.cond (.t 22) (.seq (.reg [o_ 4 (.mv (.k (.bool false)))]) (.ret)) (.skip)))) (.reg [m_ 14 5,o_ 15 (.bin .add (.t 14) (.k (.int .i64 1))),m_ 5 15]))
def c1149b1:SCode:=
 .seq (.seq (.reg [m_ 43 8,m_ 44 7,o_ 45 (.len 61 (.t 44)),o_ 46 (.bin .lss (.t 43) (.t 45))]) (.cond (.t 46) (.skip) (.exit 2))) (.seq (.block 3 (.seq (.dreg [0,0,0,6,14,31,63] [o_ 49 (.ldn 134 6 (.t 2)),m_ 50 7,m_ 51 8,o_ 52 (.iad 63 3 (.t 50) (.t 51)),o_ 53 (.ldn 63 3 (.t 52)),o_ 54 (.call (.f 105) [.t 49,.t 53]),o_ 55 (.not (.t 54))]) (.cond (.t 55) (.seq (.reg [o_ 4 (.mv (.k (.bool false)))]) (.ret)) (.skip)))) (.reg [m_ 47 8,o_ 48 (.bin .add (.t 47) (.k (.int .i64 1))),m_ 8 48]))
def c1149:SCode:=
 .seq (.reg [o_ 2 (.box 134 (.t 0)),o_ 4 (.mv (.k (.bool false)))]) (.seq (.seq (.reg [o_ 5 (.mv (.k (.int .i64 0)))]) (.block 0 (.loop c1149b0))) (.seq (.reg [m_ 24 1,m_ 25 1,o_ 26 (.len 61 (.t 25)),o_ 27 (.bin .sub (.t 26) (.k (.int .i64 1))),o_ 28 (.iad 63 3 (.t 24) (.t 27)),o_ 29 (.ldn 63 3 (.t 28)),o_ 30 (.call (.f 148) [.t 29]),m_ 23 30,o_ 31 (.ext (.t 23) 0),o_ 32 (.ext (.t 23) 1),o_ 6 (.alloc 63 [.v (.int .i64 0),.v (.int .i64 0),.cap 3 40 []]),n_ (.stn 63 3 (.t 6) (.t 31)),m_ 7 32]) (.seq (.seq (.reg [o_ 33 (.fad 63 0 0 (.t 6)),o_ 34 (.ld1 3 (.t 33)),o_ 35 (.bin .neq (.t 34) (.k (.int .i64 1))),m_ 36 35,q_ 37 36 (.ldn 134 6 (.t 2)),q_ 38 36 (.fad 63 1 1 (.t 6)),q_ 39 36 (.ld1 3 (.t 38)),q_ 40 36 (.call (.f 146) [.t 37,.t 39]),q_ 41 36 (.bin .lss (.t 40) (.k (.int .i64 0))),o_ 42 (.pick (.t 36) (.k (.bool true)) (.t 41))]) (.cond (.t 42) (.seq (.reg
 [o_ 4 (.mv (.k (.bool false)))]) (.ret)) (.skip))) (.seq (.seq (.reg [o_ 8 (.mv (.k (.int .i64 0)))]) (.block 2 (.loop c1149b1))) (.seq (.reg [o_ 4 (.mv (.k (.bool true)))]) (.ret))))))
def r1149:List RR:=[.t 4]
theorem ok1149:okFn Go.Proofs.Tryz.prog 149 56 c1149 r1149 2=true:=by kernel_rfl
def c1150b0:SCode:=
 .seq (.seq (.reg [m_ 41 10,m_ 42 8,o_ 43 (.len 61 (.t 42)),o_ 44 (.bin .lss (.t 41) (.t 43))]) (.cond (.t 44) (.skip) (.exit 0))) (.seq (.block 1 (.seq (.dreg [0,0,0,6,14,31,63] [o_ 47 (.ldn 134 6 (.t 3)),m_ 48 8,m_ 49 10,o_ 50 (.iad 63 3 (.t 48) (.t 49)),o_ 51 (.ldn 63 3 (.t 50)),o_ 52 (.call (.f 105) [.t 47,.t 51]),o_ 53 (.not (.t 52))]) (.cond (.t 53) (.seq (.reg [o_ 6 (.mv (.k (.bool false)))]) (.ret)) (.skip)))) (.reg [m_ 45 10,o_ 46 (.bin .add (.t 45) (.k (.int .i64 1))),m_ 10 46]))
def c1150b1:SCode:=
 .seq (.seq (.reg [m_ 87 13,m_ 88 8,o_ 89 (.len 61 (.t 88)),o_ 90 (.bin .lss (.t 87) (.t 89))]) (.cond (.t 90) (.skip) (.exit 2))) (.seq (.block 3 (.seq (.reg [o_ 93 (.fad 134 0 0 (.t 3)),o_ 94 (.fad 68 1 1 (.t 93)),o_ 95 (.ld1 66 (.t 94)),m_ 96 12,o_ 97 (.iad 106 6 (.t 95) (.t 96)),o_ 98 (.fad 106 1 1 (.t 97)),o_ 99 (.ld1 102 (.t 98)),m_ 100 13,o_ 101 (.iad 126 7 (.t 99) (.t 100)),o_ 102 (.ldn 126 7 (.t 101)),o_ 14 (.alloc 126 [.v (.bool false),.v (.int .i64 0),.v (.int .i64 0),.cap 3 40 [],.cap 3 40 [],.v (.int .i64 0),.cap 3 40 []]),n_ (.stn 126 7 (.t 14) (.t 102))])
 (.seq (.dreg [0,1,3,7,15,15,15,111,239,511,1023,2047,4095,8191,16383,32767,65535,131071,262143,524287,1048575,2097151,4194303,4194303,4194303,29360127,62914559,4194303,268435455,536870911,1073741823,2147483647,4294967295,8589934591,17179869183,34359738367,68719476735,137438953471,274877906943,549755813887,1099511627775,2199023255551,4398046511103,4398046511103,17592186044415,35184372088831,70368744177663,140737488355327,281474976710655,562949953421311,562949953421311,562949953421311,3940649673949183,8444249301319679,17451448556060671,36028797018963967,72057594037927935,144115188075855871,288230376151711743,576460752303423487,1152921504606846975] [o_ 103 (.fad 126 0 0 (.t 14)),o_ 104 (.ld1 4 (.t 103)),o_ 105 (.not (.t 104)),m_ 106 105,p_ 107 106 (.ldn 134 6 (.t 3)),pm_ 108 106 8,pm_ 109 106 13,
 p_ 110 106 (.iad 63 3 (.t 108) (.t 109)),p_ 111 106 (.ldn 63 3 (.t 110)),p_ 112 106 (.call (.f 105) [.t 107,.t 111]),p_ 113 106 (.not (.t 112)),o_ 114 (.pick (.t 106) (.t 113) (.k (.bool false))),m_ 115 114,q_ 116 115 (.fad 126 0 0 (.t 14)),q_ 117 115 (.ld1 4 (.t 116)),qm_ 118 115 117,p_ 119 118 (.fad 126 2 4 (.t 14)),p_ 120 118 (.ld1 61 (.t 119)),p_ 121 118 (.len 61 (.t 120)),p_ 122 118 (.bin .eql (.t 121) (.k (.int .i64 0))),q_ 123 115 (.pick (.t 118) (.t 122) (.k (.bool false))),qm_ 124 115 123,p_ 125 124 (.ldn 134 6 (.t 3)),pm_ 126 124 8,pm_ 127 124 13,p_ 128 124 (.iad 63 3 (.t 126) (.t 127)),p_ 129 124 (.ldn 63 3 (.t 128)),pm_ 130 124 2,p_ 131 124 (.call (.f 150) [.t 125,.t 129,.t 130]),p_ 132 124 (.not (.t 131)),q_ 133 115 (.pick (.t 124) (.t 132) (.k (.bool false))),o_ 134 (.pick (.t 115) (.k (.bool true)) (.t 133)),m_ 135 134,q_ 136 135 (.fad 126 0 0 (.t 14)),
 q_ 137 135 (.ld1 4 (.t 136)),qm_ 138 135 137,p_ 139 138 (.fad 126 2 4 (.t 14)),p_ 140 138 (.ld1 61 (.t 139)),p_ 141 138 (.len 61 (.t 140)),p_ 142 138 (.bin .gtr (.t 141) (.k (.int .i64 0))),q_ 143 135 (.pick (.t 138) (.t 142) (.k (.bool false))),qm_ 144 135 143,pm_ 145 144 8,pm_ 146 144 13,p_ 147 144 (.iad 63 3 (.t 145) (.t 146)),p_ 148 144 (.fad 63 0 0 (.t 147)),p_ 149 144 (.ld1 3 (.t 148)),p_ 150 144 (.bin .eql (.t 149) (.k (.int .i64 1))),pm_ 151 144 150,p_ 152 151 (.ldn 134 6 (.t 3)),pm_ 153 151 8,pm_ 154 151 13,p_ 155 151 (.iad 63 3 (.t 153) (.t 154)),p_ 156 151 (.fad 63 1 1 (.t 155)),p_ 157 151 (.ld1 3 (.t 156)),p_ 158 151 (.call (.f 146) [.t 152,.t 157]),p_ 159 151 (.bin .geq (.t 158) (.k (.int .i64 0))),p_ 160 144 (.pick (.t 151) (.t 159) (.k (.bool false))),p_ 161 144 (.not (.t 160)),q_ 162 135 (.pick (.t 144) (.t 161) (.k (.bool false))),
 o_ 163 (.pick (.t 135) (.k (.bool true)) (.t 162))]) (.cond (.t 163) (.seq (.reg [o_ 6 (.mv (.k (.bool false)))]) (.ret)) (.skip))))) (.reg [m_ 91 13,o_ 92 (.bin .add (.t 91) (.k (.int .i64 1))),m_ 13 92]))
def c1150:SCode:=
 .seq (.reg [o_ 3 (.box 134 (.t 0)),o_ 4 (.box 63 (.t 1)),o_ 6 (.mv (.k (.bool false)))]) (.seq (.reg [o_ 16 (.ldn 63 3 (.t 4)),o_ 17 (.call (.f 148) [.t 16]),m_ 15 17,o_ 18 (.ext (.t 15) 0),o_ 19 (.ext (.t 15) 1),o_ 7 (.alloc 63 [.v (.int .i64 0),.v (.int .i64 0),.cap 3 40 []]),n_ (.stn 63 3 (.t 7) (.t 18)),m_ 8 19]) (.seq (.seq (.reg [o_ 20 (.fad 63 0 0 (.t 7)),o_ 21 (.ld1 3 (.t 20)),o_ 22 (.bin .eql (.t 21) (.k (.int .i64 1)))]) (.cond (.t 22) (.seq (.reg [o_ 23 (.ldn 134 6 (.t 3)),o_ 24 (.fad 63 1 1 (.t 7)),o_ 25 (.ld1 3 (.t 24)),o_ 26 (.call (.f 146) [.t 23,.t 25]),m_ 9 26]) (.seq (.seq (.reg [m_ 27 9,o_ 28 (.bin .lss (.t 27) (.k (.int .i64 0))),m_ 29 28,qm_ 30 29 8,q_ 31 29 (.len 61 (.t 30)),q_ 32 29 (.fad 134 3 5 (.t 3)),q_ 33 29 (.ld1 102 (.t 32)),qm_ 34 29 9,q_ 35 29 (.iad 126 7 (.t 33) (.t 34)),q_ 36 29 (.fad 126 2 4 (.t 35)),q_ 37 29 (.ld1 61 (.t 36)),
 q_ 38 29 (.len 61 (.t 37)),q_ 39 29 (.bin .neq (.t 31) (.t 38)),o_ 40 (.pick (.t 29) (.k (.bool true)) (.t 39))]) (.cond (.t 40) (.seq (.reg [o_ 6 (.mv (.k (.bool false)))]) (.ret)) (.skip))) (.seq (.seq (.reg [o_ 10 (.mv (.k (.int .i64 0)))]) (.block 0 (.loop c1150b0))) (.seq (.reg [o_ 6 (.mv (.k (.bool true)))]) (.ret))))) (.skip))) (.seq (.seq (.reg [o_ 54 (.fad 63 0 0 (.t 7)),o_ 55 (.ld1 3 (.t 54)),o_ 56 (.bin .neq (.t 55) (.k (.int .i64 3)))]) (.cond (.t 56) (.seq (.reg [o_ 6 (.mv (.k (.bool false)))]) (.ret)) (.skip))) (.seq (.reg [o_ 58 (.fad 134 0 0 (.t 3)),o_ 59 (.ldn 68 3 (.t 58)),o_ 60 (.fad 134 1 3 (.t 3)),o_ 61 (.ld1 3 (.t 60)),o_ 62 (.fad 63 1 1 (.t 7)),o_ 63 (.ld1 3 (.t 62)),o_ 64 (.call (.f 147) [.t 59,.t 61,.t 63]),m_ 57 64,o_ 65 (.ext (.t 57) 0),o_ 66 (.ext (.t 57) 1),m_ 11 65,m_ 12 66]) (.seq (.seq (.reg [m_ 67 11,o_ 68 (.bin .neq (.t 67) (.k (.int .i64 5))),
 m_ 69 68,qm_ 70 69 12,qm_ 71 69 2,q_ 72 69 (.bin .geq (.t 70) (.t 71)),o_ 73 (.pick (.t 69) (.k (.bool true)) (.t 72)),m_ 74 73,qm_ 75 74 8,q_ 76 74 (.len 61 (.t 75)),q_ 77 74 (.fad 134 0 0 (.t 3)),q_ 78 74 (.fad 68 1 1 (.t 77)),q_ 79 74 (.ld1 66 (.t 78)),qm_ 80 74 12,q_ 81 74 (.iad 106 6 (.t 79) (.t 80)),q_ 82 74 (.fad 106 1 1 (.t 81)),q_ 83 74 (.ld1 102 (.t 82)),q_ 84 74 (.len 102 (.t 83)),q_ 85 74 (.bin .neq (.t 76) (.t 84)),o_ 86 (.pick (.t 74) (.k (.bool true)) (.t 85))]) (.cond (.t 86) (.seq (.reg [o_ 6 (.mv (.k (.bool false)))]) (.ret)) (.skip))) (.seq (.seq (.reg [o_ 13 (.mv (.k (.int .i64 0)))]) (.block 2 (.loop c1150b1))) (.seq (.reg [o_ 6 (.mv (.k (.bool true)))]) (.ret))))))))
def r1150:List RR:=[.t 6]
theorem ok1150:okFn Go.Proofs.Tryz.prog 150 164 c1150 r1150 3=true:=by kernel_rfl
def c1072b0:SCode:=
 .seq (.seq (.reg [m_ 6 4,o_ 7 (.fad 68 0 0 (.t 1)),o_ 8 (.ld1 65 (.t 7)),o_ 9 (.len 65 (.t 8)),o_ 10 (.bin .lss (.t 6) (.t 9))]) (.cond (.t 10) (.skip) (.exit 0))) (.seq (.block 1 (.dreg [0,0,2,0,14,30,62,126,0,256,0,1792,3840,7936,16128,32766,65534,131071,262143] [m_ 13 3,o_ 14 (.fad 68 0 0 (.t 1)),o_ 15 (.ld1 65 (.t 14)),m_ 16 4,o_ 17 (.iad 104 6 (.t 15) (.t 16)),o_ 18 (.fad 104 0 0 (.t 17)),o_ 19 (.ld1 102 (.t 18)),o_ 20 (.call (.f 107) [.t 19]),o_ 21 (.fad 68 0 0 (.t 1)),o_ 22 (.ld1 65 (.t 21)),m_ 23 4,o_ 24 (.iad 104 6 (.t 22) (.t 23)),o_ 25 (.fad 104 3 3 (.t 24)),o_ 26 (.ldn 63 3 (.t 25)),o_ 27 (.lit 63 3 40 [.t 26]),o_ 28 (.call (.f 108) [.t 27]),o_ 29 (.best true [.t 20,.t 28]),o_ 30 (.best true [.t 13,.t 29]),m_ 3 30])) (.reg [m_ 11 4,o_ 12 (.bin .add (.t 11) (.k (.int .i64 1))),m_ 4 12]))
def c1072b1:SCode:=
 .seq (.seq (.reg [m_ 31 5,o_ 32 (.fad 68 1 1 (.t 1)),o_ 33 (.ld1 66 (.t 32)),o_ 34 (.len 66 (.t 33)),o_ 35 (.bin .lss (.t 31) (.t 34))]) (.cond (.t 35) (.skip) (.exit 2))) (.seq (.block 3 (.dreg [0,0,2,0,14,30,62,126,0,256,0,1792,3840,7936,16128,32766,0,65536,0,458752,983040,2031616,4194302,8388606,16777214,33554431,67108863] [m_ 38 3,o_ 39 (.fad 68 1 1 (.t 1)),o_ 40 (.ld1 66 (.t 39)),m_ 41 5,o_ 42 (.iad 106 6 (.t 40) (.t 41)),o_ 43 (.fad 106 1 1 (.t 42)),o_ 44 (.ld1 102 (.t 43)),o_ 45 (.call (.f 107) [.t 44]),o_ 46 (.fad 68 1 1 (.t 1)),o_ 47 (.ld1 66 (.t 46)),m_ 48 5,o_ 49 (.iad 106 6 (.t 47) (.t 48)),o_ 50 (.fad 106 3 3 (.t 49)),o_ 51 (.ldn 63 3 (.t 50)),o_ 52 (.lit 63 3 40 [.t 51]),o_ 53 (.call (.f 108) [.t 52]),o_ 54 (.fad 68 1 1 (.t 1)),o_ 55 (.ld1 66 (.t 54)),m_ 56 5,o_ 57 (.iad 106 6 (.t 55) (.t 56)),o_ 58 (.fad 106 2 2 (.t 57)),o_ 59 (.ld1 61 (.t 58)),
 o_ 60 (.call (.f 108) [.t 59]),o_ 61 (.best true [.t 53,.t 60]),o_ 62 (.best true [.t 45,.t 61]),o_ 63 (.best true [.t 38,.t 62]),m_ 3 63])) (.reg [m_ 36 5,o_ 37 (.bin .add (.t 36) (.k (.int .i64 1))),m_ 5 37]))
def c1072:SCode:=
 .seq (.reg [o_ 1 (.box 68 (.t 0)),o_ 2 (.mv (.k (.int .i64 0)))]) (.seq (.reg [o_ 3 (.mv (.k (.int .i64 (-1))))]) (.seq (.seq (.reg [o_ 4 (.mv (.k (.int .i64 0)))]) (.block 0 (.loop c1072b0))) (.seq (.seq (.reg [o_ 5 (.mv (.k (.int .i64 0)))]) (.block 2 (.loop c1072b1))) (.seq (.reg [m_ 64 3,m_ 2 64]) (.ret)))))
def r1072:List RR:=[.t 2]
theorem ok1072:okFn Go.Proofs.Tryz.prog 72 65 c1072 r1072 1=true:=by kernel_rfl
def c1073:SCode:=
 .seq (.reg [o_ 1 (.box 68 (.t 0)),o_ 2 (.mv (.k (.int .i64 0)))]) (.seq (.dreg [0,1,3,0,0,19,59,127,0,256,768,2047,4095] [o_ 3 (.ldn 68 3 (.t 1)),o_ 4 (.call (.f 109) [.t 3]),o_ 5 (.bin .mul (.k (.int .i64 2)) (.t 4)),o_ 6 (.ldn 68 3 (.t 1)),o_ 7 (.ldn 68 3 (.t 1)),o_ 8 (.call (.f 109) [.t 7]),o_ 9 (.call (.f 110) [.t 6,.t 8]),o_ 10 (.bin .add (.t 5) (.t 9)),o_ 11 (.fad 68 1 1 (.t 1)),o_ 12 (.ld1 66 (.t 11)),o_ 13 (.len 66 (.t 12)),o_ 14 (.bin .add (.t 10) (.t 13)),m_ 2 14]) (.ret))
def r1073:List RR:=[.t 2]
theorem ok1073:okFn Go.Proofs.Tryz.prog 73 15 c1073 r1073 1=true:=by kernel_rfl
def c1074:SCode:=
 .seq (.reg [o_ 3 (.box 68 (.t 0)),o_ 6 (.mv (.k (.int .i64 0)))]) (.seq (.seq (.reg [m_ 7 1,o_ 8 (.call (.f 102) [.t 7,.k (.int .i64 0),.k (.int .i64 65535)]),o_ 9 (.not (.t 8)),m_ 10 9,qm_ 11 10 2,q_ 12 10 (.ldn 68 3 (.t 3)),q_ 13 10 (.call (.f 109) [.t 12]),q_ 14 10 (.bin .sub (.t 13) (.k (.int .i64 1))),q_ 15 10 (.call (.f 102) [.t 11,.k (.int .i64 0),.t 14]),q_ 16 10 (.not (.t 15)),o_ 17 (.pick (.t 10) (.k (.bool true)) (.t 16))]) (.cond (.t 17) (.seq (.reg [o_ 6 (.mv (.k (.int .i64 (-1))))]) (.ret)) (.skip))) (.seq (.reg [m_ 18 1,m_ 19 2,o_ 20 (.bin .add (.t 18) (.t 19)),m_ 6 20]) (.ret)))
def r1074:List RR:=[.t 6]
theorem ok1074:okFn Go.Proofs.Tryz.prog 74 21 c1074 r1074 3=true:=by kernel_rfl
def c1075:SCode:=
 .seq (.reg [o_ 3 (.box 68 (.t 0)),o_ 6 (.mv (.k (.int .i64 0)))]) (.seq (.seq (.reg [m_ 7 1,o_ 8 (.call (.f 102) [.t 7,.k (.int .i64 0),.k (.int .i64 65535)]),o_ 9 (.not (.t 8)),m_ 10 9,qm_ 11 10 2,q_ 12 10 (.ldn 68 3 (.t 3)),q_ 13 10 (.call (.f 109) [.t 12]),q_ 14 10 (.bin .sub (.t 13) (.k (.int .i64 1))),q_ 15 10 (.call (.f 102) [.t 11,.k (.int .i64 0),.t 14]),q_ 16 10 (.not (.t 15)),o_ 17 (.pick (.t 10) (.k (.bool true)) (.t 16)),m_ 18 17,q_ 19 18 (.fad 68 0 0 (.t 3)),q_ 20 18 (.ld1 65 (.t 19)),qm_ 21 18 2,q_ 22 18 (.iad 104 6 (.t 20) (.t 21)),q_ 23 18 (.fad 104 2 2 (.t 22)),q_ 24 18 (.ld1 4 (.t 23)),q_ 25 18 (.not (.t 24)),o_ 26 (.pick (.t 18) (.k (.bool true)) (.t 25))]) (.cond (.t 26) (.seq (.reg [o_ 6 (.mv (.k (.int .i64 (-1))))]) (.ret)) (.skip))) (.seq (.dreg [0,0,2,7,0,0,54,127,255] [m_ 27 1,o_ 28 (.ldn 68 3 (.t 3)),o_ 29 (.call (.f 109) [.t 28]),
 o_ 30 (.bin .add (.t 27) (.t 29)),o_ 31 (.ldn 68 3 (.t 3)),m_ 32 2,o_ 33 (.call (.f 110) [.t 31,.t 32]),o_ 34 (.bin .add (.t 30) (.t 33)),m_ 6 34]) (.ret)))
def r1075:List RR:=[.t 6]
theorem ok1075:okFn Go.Proofs.Tryz.prog 75 35 c1075 r1075 3=true:=by kernel_rfl
def c1076:SCode:=
 .seq (.reg [o_ 3 (.box 68 (.t 0)),o_ 6 (.mv (.k (.int .i64 0)))]) (.seq (.seq (.reg [m_ 7 1,o_ 8 (.call (.f 102) [.t 7,.k (.int .i64 0),.k (.int .i64 65535)]),o_ 9 (.not (.t 8)),m_ 10 9,qm_ 11 10 2,q_ 12 10 (.fad 68 1 1 (.t 3)),q_ 13 10 (.ld1 66 (.t 12)),q_ 14 10 (.len 66 (.t 13)),q_ 15 10 (.bin .sub (.t 14) (.k (.int .i64 1))),q_ 16 10 (.call (.f 102) [.t 11,.k (.int .i64 0),.t 15]),q_ 17 10 (.not (.t 16)),o_ 18 (.pick (.t 10) (.k (.bool true)) (.t 17))]) (.cond (.t 18) (.seq (.reg [o_ 6 (.mv (.k (.int .i64 (-1))))]) (.ret)) (.skip))) (.seq (.dreg [0,0,2,7,0,0,38,118,255,0,1023,2047] [m_ 19 1,o_ 20 (.ldn 68 3 (.t 3)),o_ 21 (.call (.f 109) [.t 20]),o_ 22 (.bin .add (.t 19) (.t 21)),o_ 23 (.ldn 68 3 (.t 3)),o_ 24 (.ldn 68 3 (.t 3)),o_ 25 (.call (.f 109) [.t 24]),o_ 26 (.call (.f 110) [.t 23,.t 25]),o_ 27 (.bin .add (.t 22) (.t 26)),m_ 28 2,
 o_ 29 (.bin .add (.t 27) (.t 28)),m_ 6 29]) (.ret)))
def r1076:List RR:=[.t 6]
theorem ok1076:okFn Go.Proofs.Tryz.prog 76 30 c1076 r1076 3=true:=by kernel_rfl
def c1077:SCode:=
 .seq (.reg [o_ 3 (.box 68 (.t 0)),o_ 6 (.mv (.k (.int .i64 0)))]) (.seq (.seq (.reg [m_ 7 1,o_ 8 (.call (.f 102) [.t 7,.k (.int .i64 0),.k (.int .i64 65535)]),o_ 9 (.not (.t 8)),m_ 10 9,qm_ 11 10 2,q_ 12 10 (.ldn 68 3 (.t 3)),q_ 13 10 (.call (.f 109) [.t 12]),q_ 14 10 (.bin .sub (.t 13) (.k (.int .i64 1))),q_ 15 10 (.call (.f 102) [.t 11,.k (.int .i64 0),.t 14]),q_ 16 10 (.not (.t 15)),o_ 17 (.pick (.t 10) (.k (.bool true)) (.t 16))]) (.cond (.t 17) (.seq (.reg [o_ 6 (.mv (.k (.int .i64 (-1))))]) (.ret)) (.skip))) (.seq (.dreg [0,0,2,7,0,0,38,118,255,0,512,1536,4095,0,16383,32767] [m_ 18 1,o_ 19 (.ldn 68 3 (.t 3)),o_ 20 (.call (.f 109) [.t 19]),o_ 21 (.bin .add (.t 18) (.t 20)),o_ 22 (.ldn 68 3 (.t 3)),o_ 23 (.ldn 68 3 (.t 3)),o_ 24 (.call (.f 109) [.t 23]),o_ 25 (.call (.f 110) [.t 22,.t 24]),o_ 26 (.bin .add (.t 21) (.t 25)),o_ 27 (.fad 68 1 1 (.t 3)),
 o_ 28 (.ld1 66 (.t 27)),o_ 29 (.len 66 (.t 28)),o_ 30 (.bin .add (.t 26) (.t 29)),m_ 31 2,o_ 32 (.bin .add (.t 30) (.t 31)),m_ 6 32]) (.ret)))
def r1077:List RR:=[.t 6]
theorem ok1077:okFn Go.Proofs.Tryz.prog 77 33 c1077 r1077 3=true:=by kernel_rfl
end Go.Abs

namespace Go.Abs
open Go.Proofs
theorem loop1041g {σ:St} {Q:SEx → St → Prop} (cs ks:List Int) (hc:cs.length < 1000000000) (s29:σ.sl 29=is cs) (s30:σ.sl 30=ib cs.length) (s31:σ.sl 31=ib (0:Nat)) (s5:σ.sl 5=.c (.mp 1041011 (σ.tg 1041011))) (o5:σ.ob 1041011=some (.mob true (encK ks)))
  (hQ:∀ σ',KP σ σ' → σ'.ob 1041011=some (.mob true (encK (addAll cs ks))) → σ'.tg 1041011=σ.tg 1041011 → Q .normal σ') :
  W Tryz.prog 1041000 (.loop c1041b0) σ (onBlock 2 Q):=by
 refine W_loop (fun m σ'=>∃ (i:Nat) (ks':List Int),i + m=cs.length ∧ addAll (cs.drop i) ks'=addAll cs ks ∧ KP σ σ' ∧ σ'.sl 29=is cs ∧ σ'.sl 30=ib cs.length ∧ σ'.sl 31=ib i ∧ σ'.ob 1041011=some (.mob true (encK ks')) ∧ σ'.tg 1041011=σ.tg 1041011) cs.length ⟨0,ks,by simp [s29,s30,s31,o5];exact fun _ _=>rfl⟩ ?_
 rintro m σ' ⟨i,ks',hm,hp,hs,q29,q30,q31,qo,qt⟩
 have q5:σ'.sl 5=.c (.mp 1041011 (σ'.tg 1041011)):=by rw [hs 5 (by simp),s5,qt]
 simp only [is,ib] at q29 q30 q31
 unfold c1041b0
 by_cases hi:i < cs.length
 ·have w1:=wrap_succ (i:=i) (by omega)
  obtain ⟨c,hc1⟩:=at_of hi
  obtain ⟨_,hc2⟩:=getE hc1
  rw [drop_at hc1] at hp
  simp [q29,q30,q31,q5,qo,hi,hc2,mset_encK,w1]
  refine ⟨m - 1,by omega,i + 1,by omega,addK ks' c,hp,fun s h=>?_,by simp [is],by simp [ib],by simp [ib],rfl,qt⟩
  rcases h with rfl | rfl | rfl | rfl | rfl | rfl <;> (simp;exact hs _ (by simp))
 ·have:i=cs.length:=by omega
  subst this
  simp [addAll] at hp
  simp [q29,q30,q31]
  refine hQ _ (fun s h=>?_) (by simp [qo,addAll,hp]) (by simp [qt])
  rcases h with rfl | rfl | rfl | rfl | rfl | rfl <;> (simp;exact hs _ (by simp))
def upK:Nat → Int → List Int → List Int
 | 0,_,ks=>ks
 | k + 1,c,ks=>upK k (c + 1) (addK ks c)
theorem loop1041u {σ:St} {Q:SEx → St → Prop} (n:Nat) (hn:n ≤ 1000) (b:Int) (hb:0 ≤ b) (ks:List Int) (s1:σ.sl 1=.c (.v (.int .i64 n))) (s10:σ.sl 10=.c (.v (.int .i64 b))) (s5:σ.sl 5=.c (.mp 1041011 (σ.tg 1041011))) (o5:σ.ob 1041011=some (.mob true (encK ks)))
  (hQ:∀ σ',σ'.sl 5=.c (.mp 1041011 (σ'.tg 1041011)) → σ'.ob 1041011=some (.mob true (encK (upK ((n:Int) - b).toNat b ks))) → Q .normal σ') :
  W Tryz.prog 1041000 (.loop c1041b2) σ (onBlock 4 Q):=by
 refine W_loop (fun m σ=>∃ (c:Int) (ks':List Int),0 ≤ c ∧ ((n:Int) - c).toNat=m ∧ upK m c ks'=upK ((n:Int) - b).toNat b ks ∧ σ.sl 1=.c (.v (.int .i64 n)) ∧ σ.sl 10=.c (.v (.int .i64 c)) ∧ σ.sl 5=.c (.mp 1041011 (σ.tg 1041011)) ∧ σ.ob 1041011=some (.mob true (encK ks'))) ((n:Int) - b).toNat ⟨b,ks,hb,rfl,rfl,s1,s10,s5,o5⟩ ?_
 clear s1 s10 s5 o5 σ
 rintro m σ ⟨c,ks',hc,hm,hp,s1,s10,s5,o5⟩
 unfold c1041b2
 by_cases hlt:c < n
 ·have w1:IntKind.wrap .i64 (c + 1)=c + 1:=wrap_id (by omega) (by omega)
  obtain ⟨m',rfl⟩:∃ m',m=m' + 1:=⟨m - 1,by omega⟩
  rw [upK] at hp
  simp [s1,s10,s5,o5,hlt,mset_encK,w1]
  exact ⟨m',by omega,c + 1,by omega,by omega,_,hp,rfl,rfl⟩
 ·have:m=0:=by omega
  subst this
  rw [upK] at hp
  simp [s1,s10,hlt]
  exact hQ _ (by simp [s5]) (by simp [o5,← hp])
def seenE (n:Nat) (e:En):List Int:=
 if 3 ≤ e.kind then upK ((n:Int) - e.base).toNat e.base (addAll e.body.consts (addAll e.typ.consts [])) else addAll e.body.consts (addAll e.typ.consts [])
def usesE (n:Nat) (e:En):List Int:=sortI (seenE n e)
theorem consts_mem_ok {t:T} (h:t.ok):∀ n,n ∈ t.consts → okI n:=fun n hn=>(cons_facts t []).2.2 h.2 (by simp) n (sortI_mem.1 hn)
theorem addAll_len:∀ (cs ks:List Int),(addAll cs ks).length ≤ cs.length + ks.length
 | [],ks=>by simp [addAll]
 | c :: cs,ks=>by
  have h1:=addAll_len cs (addK ks c)
  have h2:=addK_len ks c
  show (addAll cs (addK ks c)).length ≤ _
  simp;omega
theorem upK_len:∀ (m:Nat) (c:Int) (ks:List Int),(upK m c ks).length ≤ m + ks.length
 | 0,c,ks=>by simp [upK]
 | m + 1,c,ks=>by
  have h1:=upK_len m (c + 1) (addK ks c)
  have h2:=addK_len ks c
  rw [upK];omega
theorem upK_mem:∀ (m:Nat) (c:Int) (ks:List Int) (x:Int),x ∈ upK m c ks ↔ x ∈ ks ∨ (c ≤ x ∧ x < c + m)
 | 0,c,ks,x=>by simp [upK];omega
 | m + 1,c,ks,x=>by
  rw [upK,upK_mem m (c + 1) (addK ks c) x,addK_mem]
  constructor
  ·rintro ((h | h) | h)
   ·exact .inl h
   ·exact .inr (by omega)
   ·exact .inr (by omega)
  ·rintro (h | h)
   ·exact .inl (.inl h)
   ·by_cases e:x=c
    ·exact .inl (.inr e)
    ·exact .inr (by omega)
theorem addAll_nodup:∀ (cs:List Int) {ks:List Int},ks.Nodup → (addAll cs ks).Nodup
 | [],ks,h=>by simpa [addAll] using h
 | c :: cs,ks,h=>addAll_nodup cs (addK_nodup h)
theorem upK_nodup:∀ (m:Nat) (c:Int) {ks:List Int},ks.Nodup → (upK m c ks).Nodup
 | 0,c,ks,h=>by simpa [upK] using h
 | m + 1,c,ks,h=>upK_nodup m (c + 1) (addK_nodup h)
theorem seenE_nodup (n:Nat) (e:En):(seenE n e).Nodup:=by
 unfold seenE
 have h:=addAll_nodup e.body.consts (addAll_nodup e.typ.consts (ks:=[]) (by simp))
 split
 ·exact upK_nodup _ _ h
 ·exact h
theorem seenE_mem (n:Nat) (e:En) (x:Int):x ∈ seenE n e ↔ (x ∈ e.typ.consts ∨ x ∈ e.body.consts) ∨ (3 ≤ e.kind ∧ e.base ≤ x ∧ x < n):=by
 unfold seenE
 split
 ·rename_i h
  rw [upK_mem,addAll_mem,addAll_mem]
  simp only [List.not_mem_nil,or_false]
  constructor
  ·rintro ((h1 | h1) | h1)
   ·exact .inl (.inr h1)
   ·exact .inl (.inl h1)
   ·exact .inr ⟨h,by omega,by omega⟩
  ·rintro ((h1 | h1) | h1)
   ·exact .inl (.inr h1)
   ·exact .inl (.inl h1)
   ·exact .inr ⟨by omega,by omega⟩
 ·rename_i h
  rw [addAll_mem,addAll_mem]
  simp only [List.not_mem_nil,or_false]
  constructor
  ·rintro (h1 | h1)
   ·exact .inl (.inr h1)
   ·exact .inl (.inl h1)
  ·rintro ((h1 | h1) | h1)
   ·exact .inr h1
   ·exact .inl h1
   ·exact absurd h1.1 h
theorem fn1041g (l:List En) (n:Nat) (hn:n ≤ 1000) (e:En) (he:l[n]? = some e) (hok:e.Ok) (hb:3 ≤ e.kind → 0 ≤ e.base):Fn Tryz.prog 41 [ens l,ib n] (is (usesE n e)):=by
 refine fn_of (base:=1041000) ok1041 rfl fun σ h0 hr=>?_
 have s0:σ.sl 0=.c (.sl 12 160 (l.map En.cells)):=h0 0
 have s1:σ.sl 1=.c (.v (.int .i64 n)):=h0 1
 obtain ⟨hnl,he'⟩:=getE he
 clear h0 hr
 have hl1:=consts_len hok.typ
 have hl2:=consts_len hok.body
 unfold c1041
 simp [s0,s1]
 refine W_dregA ?_
 simp [s0,s1,hnl,he',En.cells]
 refine ⟨by simp [room],realC_n ?_⟩
 simp [-W_block]
 rw [W_block]
 refine W_loop (fun m σ=>∃ (i:Nat) (ks:List Int),i + m=2 ∧ ks=(if i=0 then [] else if i=1 then addAll e.typ.consts [] else addAll e.body.consts (addAll e.typ.consts [])) ∧ σ.sl 0=.c (.sl 12 160 (l.map En.cells)) ∧ σ.sl 1=.c (.v (.int .i64 n)) ∧ σ.sl 5=.c (.mp 1041011 (σ.tg 1041011)) ∧
   σ.ob 1041011=some (.mob true (encK ks)) ∧ σ.sl 22=.c (.cap 3 40 [e.typ.cells,e.body.cells]) ∧ σ.sl 23=.c (.v (.int .i64 2)) ∧ σ.sl 24=.c (.v (.int .i64 i))) 2 ⟨0,[],by simp [s0,s1,encK,cells_eq e.typ,cells_eq e.body]⟩ ?_
 clear s0 s1 σ
 rintro m σ ⟨i,ks,hm,hk,s0,s1,s5,o5,s22,s23,s24⟩
 unfold c1041b1
 match i,hm with
 | 0,hm=>
  simp at hk
  subst hk
  simp [s22,s23,s24]
  refine ECall.fn (fn60 e.typ hok.typ.1 hok.typ.2) (by simp [tm,cells_eq e.typ,toD2,toD1,toD]) (by simp) rfl fun _=>?_
  simp [is]
  refine loop1041g e.typ.consts [] (by omega) (by simp [is]) (by simp [ib]) (by simp [ib]) (by simp [s5]) (by simp [o5]) fun σ' hs ho ht2=>?_
  have q0:σ'.sl 0=.c (.sl 12 160 (l.map En.cells)):=by rw [hs 0 (by simp)];simp [s0]
  have q1:σ'.sl 1=.c (.v (.int .i64 n)):=by rw [hs 1 (by simp)];simp [s1]
  have q5:σ'.sl 5=.c (.mp 1041011 (σ'.tg 1041011)):=by rw [hs 5 (by simp),ht2];simp [s5]
  have q22:σ'.sl 22=.c (.cap 3 40 [e.typ.cells,e.body.cells]):=by rw [hs 22 (by simp)];simp [s22]
  have q23:σ'.sl 23=.c (.v (.int .i64 2)):=by rw [hs 23 (by simp)];simp [s23]
  have q24:σ'.sl 24=.c (.v (.int .i64 (0:Nat))):=by rw [hs 24 (by simp)];simp [s24]
  have w1:IntKind.wrap .i64 (1:Int)=1:=by decide
  simp [q24,w1]
  exact ⟨1,by omega,1,by omega,by simp [q0,q1,q5,ho,q22,q23]⟩
 | 1,hm=>
  simp at hk
  subst hk
  simp [s22,s23,s24]
  refine ECall.fn (fn60 e.body hok.body.1 hok.body.2) (by simp [tm,cells_eq e.body,toD2,toD1,toD]) (by simp) rfl fun _=>?_
  simp [is]
  refine loop1041g e.body.consts (addAll e.typ.consts []) (by omega) (by simp [is]) (by simp [ib]) (by simp [ib]) (by simp [s5]) (by simp [o5]) fun σ' hs ho ht2=>?_
  have q0:σ'.sl 0=.c (.sl 12 160 (l.map En.cells)):=by rw [hs 0 (by simp)];simp [s0]
  have q1:σ'.sl 1=.c (.v (.int .i64 n)):=by rw [hs 1 (by simp)];simp [s1]
  have q5:σ'.sl 5=.c (.mp 1041011 (σ'.tg 1041011)):=by rw [hs 5 (by simp),ht2];simp [s5]
  have q22:σ'.sl 22=.c (.cap 3 40 [e.typ.cells,e.body.cells]):=by rw [hs 22 (by simp)];simp [s22]
  have q23:σ'.sl 23=.c (.v (.int .i64 2)):=by rw [hs 23 (by simp)];simp [s23]
  have q24:σ'.sl 24=.c (.v (.int .i64 (1:Nat))):=by rw [hs 24 (by simp)];simp [s24]
  have w1:IntKind.wrap .i64 (2:Int)=2:=by decide
  simp [q24,w1]
  exact ⟨0,by omega,2,by omega,by simp [q0,q1,q5,ho,q22,q23]⟩
 | 2,hm=>
  simp at hk
  subst hk
  have hlen:=addAll_len e.body.consts (addAll e.typ.consts [])
  have hlen1:=addAll_len e.typ.consts []
  simp only [List.length_nil] at hlen1
  have fin:∀ σ',σ'.sl 5=.c (.mp 1041011 (σ'.tg 1041011)) → σ'.ob 1041011=some (.mob true (encK (seenE n e))) → W Tryz.prog 1041000 (.seq (.reg
   [⟨some 57,none,.mv (.t 5)⟩,
    ⟨some 58,none,.call (.f 43) [.t 57]⟩,
    ⟨some 59,none,.call (.f 42) [.t 58]⟩,
    ⟨some 4,none,.mv (.t 59)⟩]) (.ret)) σ' (onEnd [] r1041 (is (usesE n e)) []):=by
   intro σ' q5 qo
   have hsl:(seenE n e).length ≤ 1000000000:=by
    unfold seenE
    split
    ·rename_i h3
     have:=upK_len ((n:Int) - e.base).toNat e.base (addAll e.body.consts (addAll e.typ.consts []))
     have:=hb h3
     omega
    ·omega
   simp [q5]
   refine ECall.keys (k:=1041011) (one:=true) (es:=encK (seenE n e)) (by simp [qo]) (by simp) ?_
   simp
   refine ECall.sorted 1041010 (k:=1041011) (one:=true) (es:=encK (seenE n e)) (by simp [qo]) (by simp) (by omega) ?_ ?_ ?_
   ·intro p hp
    obtain ⟨x,hx,rfl⟩:=List.mem_map.1 hp
    show okI x
    rcases (seenE_mem n e x).1 hx with (h | h) | h
    ·exact consts_mem_ok hok.typ x h
    ·exact consts_mem_ok hok.body x h
    ·have:=hb h.1
     exact ⟨by omega,by omega⟩
   ·simpa [encK] using hsl
   ·simp [r1041,is,isL,encK_keys,usesE]
  by_cases k3:3 ≤ e.kind
  ·simp [s0,s1,s22,s23,s24,hnl,he',En.cells,s5,k3]
   refine loop1041u n hn e.base (hb k3) (addAll e.body.consts (addAll e.typ.consts [])) (by simp [s1]) (by simp) (by simp [s5]) (by simp [o5]) fun σ' q5 qo=>?_
   refine fin σ' q5 ?_
   rw [qo,seenE,if_pos k3]
  ·have hse:seenE n e=addAll e.body.consts (addAll e.typ.consts []):=by rw [seenE,if_neg k3]
   simp [s0,s1,s22,s23,s24,hnl,he',En.cells,s5,k3]
   refine ECall.keys (k:=1041011) (one:=true) (es:=encK (seenE n e)) (by simp [o5,hse]) (by simp) ?_
   simp
   refine ECall.sorted 1041010 (k:=1041011) (one:=true) (es:=encK (seenE n e)) (by simp [o5,hse]) (by simp) (by omega) ?_ ?_ ?_
   ·intro p hp
    obtain ⟨x,hx,rfl⟩:=List.mem_map.1 hp
    show okI x
    rcases (seenE_mem n e x).1 hx with (h | h) | h
    ·exact consts_mem_ok hok.typ x h
    ·exact consts_mem_ok hok.body x h
    ·exact absurd h.1 k3
   ·rw [hse];simp [encK];omega
   ·simp [r1041,is,isL,encK_keys,usesE]
 | i + 3,hm=>omega
end Go.Abs

namespace Go.Abs
open Go.Proofs Go.Shelf Go.RowKit Go.Lib
def clone_ren:Go.Shelf.Ren:=⟨fun | 41=>40 | n=>n,fun | 23=>3 | 22=>24 | 4=>4 | n=>n,fun | n=>n⟩
theorem cloneA:Go.Proofs.SlLaysE0.n41 Tryz.prog clone_ren:={
 mixed:=by kernel_rfl,
 f41:=⟨Tryz.f40.name,by decide,Tryz.func40.trans (congrArg some (by kernel_rfl))⟩,
 t4:=Tryz.underlying4,
 a4:=Tryz.isAgg4,
 z4:=Tryz.sizeOf4,
 v4:=Tryz.zeroValue4,
 t22:=Tryz.underlying24,
 a22:=Tryz.isAgg24,
 z22:=Tryz.sizeOf24,
 v22:=Tryz.zeroValue24 }
section
variable {P:Program} {ρ:Ren}
set_option maxHeartbeats 2000000 in
set_option maxRecDepth 100000 in
theorem clone_zero (L:SlLaysE0.n41 P ρ) (i0:TypeInfo) (z:Value) (size bytes:Nat) (hi:P.info? (ρ.t 23)=some i0) (hz0:i0.zero=some z) (hz1:i0.size=size) (hz2:i0.bytes=bytes) (hzs:z.cells.size=size) (hsz:0 < size)
  (z23:∀ w,(Go.sizeOf (ρ.t 23)).run P w=.ok size w) (a:Addr) (c:Nat) (w:World) :
  Calls P (ρ.f 41) #[.slice (some a) 0 c] w fun e w'=>∃ v',e=.returned v' ∧ w'.ownsRow w.heap.size (ρ.t 23) size v' 0 [] ∧ Below w.heap.size w w':=by
 have mixed:=L.mixed;have t4:=L.t4;have a4:=L.a4;have z4:=L.z4;have v4:=L.v4;have t22:=L.t22;have a22:=L.a22;have z22:=L.z22;have v22:=L.v22
 have q22:∀ (w:World) (a:Option Addr) (n c n' c':Nat),(binOp .eql (ρ.t 22) (.slice a n c) (.slice none n' c')).run P w=.ok (.bool a.isNone) w:=fun w a n c n' c'=>Lib.run_eql_slice_nil w _ _ a n c n' c' L.t22
 have u22:∀ w,Sem.run P (underlying (ρ.t 22)) w=.ok (TypeDesc.slice (ρ.t 23)) w:=run_underlying t22
 obtain ⟨_,_,FG⟩:=L.f41
 go_enter FG,SlBodyN.n41_ntmps ρ
 go_wp2_with (at_builtin;refine wpList_append_own _ rfl _ _ (ρ.t 22) rfl w.heap.size (ρ.t 23) i0 z size bytes t22 hi hz0 hz1 hz2 hzs hsz _ _ _ rfl (World.ownsRow_made w #[] 0 (Nat.le_refl _) (Nat.zero_le _) (by simp)) a 0 c [] rfl (by simp) (by intro j u hj;simp at hj) (by intro u hu;cases hu) (by unfold maxLen;omega) (by omega) (by simp) ?_)
 intro v' w1 hown hgrow hnil
 go_wp2
 go_ret
 refine ⟨v',rfl,by simpa using hown,?_⟩
 exact ((Below.refl _ w).alloc (Nat.le_refl _) _).grown hgrow (by simp) (by intro k hk;simp [Value.ownBlock] at hk;omega)
end
theorem enters40:EntersF Tryz.prog 40:=fun args w=>(enters_of Tryz.func40 (by kernel_rfl) rfl) args w
theorem fnClone0:Fn Tryz.prog 40 [.c (.sl 1 8 [])] (.c (.sl 1 8 [])):=by
 refine ⟨enters40,fun g w vs hwok hargs hins=>?_⟩
 obtain ⟨v,hvs,hv⟩:=hargs.get 0 _ rfl
 have hsz:vs.size=1:=by simpa using hargs.length.symm
 have hrd:RD g w (.sl 1 8 []) v:=hv (by simp)
 have hvs':vs=#[v]:=by
  apply Array.ext
  ·simpa using hsz
  ·intro i h1 h2
   have:i=0:=by simp at h2;exact h2
   subst this
   have h3:vs[0]? = some v:=by simpa using hvs
   rw [Array.getElem?_eq_getElem h1] at h3
   simp at h3
   simp [h3]
 subst hvs'
 obtain ⟨a,c,rfl⟩:∃ a c,v=.slice a 0 c:=by
  cases hrd with
  | sl _ _ _ a c vs=>exact ⟨a,c,rfl⟩
 have fin:∀ (v':Value) (w':World),(∃ a' c',v'=.slice a' 0 c') → Below w.heap.size w w' → ∃ v'' g',Ending.returned v'=.returned v'' ∧ Post g w [] g' w' (.c (.sl 1 8 [])) v'' []:=by
  rintro v' w' ⟨a',c',rfl⟩ hbel
  have hK:Kp g w g w':=⟨fun ad h=>⟨h,World.cell?_of_block (hbel.block _ (hwok _ _ h))⟩⟩
  exact ⟨_,g,rfl,
   {res:=fun _=>.sl 1 8 [] a' c' (fun _ _=>undef) (Nat.zero_le _) (by simp [room]) (by simp) (by simp) (by simp)
    obs:=⟨fun k' t q h=>(by cases h),fun k' k'' t t' q q' h=>(by cases h)⟩
    kp:=hK
    wok:=fun b x h=>Nat.lt_of_lt_of_le (hwok b x h) hbel.size
    os:=hbel.os,tape:=hbel.tape,out:=hbel.output,grow:=hbel.size
    frame:=fun b hb _=>⟨hbel.block b hb,fun x=>Iff.rfl⟩
    loc:=fun k' t q h=>(by cases h)
    box:=fun k' t _ h=>by obtain ⟨q,h⟩:=h;cases h }⟩
 cases a with
 | none=>
  refine (AnyE.slices_Clone_nil cloneA 0 c w).mono ?_
  rintro e w' ⟨rfl,rfl⟩
  exact fin _ _ ⟨none,0,rfl⟩ (Below.refl _ _)
 | some a=>
  obtain ⟨i0,hi,hz0,hz1,hz2⟩:=info_parts (show (Tryz.prog.info? 3).map (fun i=>(i.zero,i.size,i.bytes))=some (some (Value.int .i64 0),1,8) by kernel_rfl)
  refine (clone_zero cloneA i0 (.int .i64 0) 1 8 hi hz0 hz1 hz2 rfl (by decide) Tryz.sizeOf3 a c w).mono ?_
  rintro e w' ⟨v',rfl,hown,hbel⟩
  refine fin _ _ ?_ hbel
  rcases hown.2 with h | ⟨gb,cap,cur,h1,h2,h3,h4,h5,h6,h7⟩
  ·exact ⟨none,0,h.1⟩
  ·exact ⟨_,_,h1⟩
end Go.Abs

namespace Go.Abs
open Go.Proofs
theorem within_consts (t:T):t.formed=true → ∀ a b:Int,t.within a b=true → ∀ n,t.hasC n=true → 0 ≤ n ∧ n < b:=by
 induction t using T.ind with
 | h k m ts ih=>
  intro hf a b hw n hn
  simp only [T.formed,Bool.and_eq_true,Bool.not_eq_true'] at hf
  obtain ⟨hf1,hf2⟩:=hf
  rw [formedL_all] at hf2
  simp only [T.hasC,Bool.or_eq_true,Bool.and_eq_true,decide_eq_true_eq] at hn
  rcases hn with ⟨rfl,rfl⟩ | hn
  ·have h1:m < b:=by simpa [T.within] using hw
   have h2:0 ≤ m:=by
    simp only [badHead,Bool.or_eq_false_iff,decide_eq_false_iff_not] at hf1
    omega
   exact ⟨h2,h1⟩
  ·rw [hasCL_any] at hn
   obtain ⟨u,hu,hun⟩:=List.any_eq_true.1 hn
   have hkids:∀ (us:List T) (i:Int),T.withinL k a b i us=true → ∀ u,u ∈ us → ∃ a',u.within a' b=true:=by
    intro us
    induction us with
    | nil=>intro i _ u hu;cases hu
    | cons v us ihu=>
     intro i h u hu
     simp only [T.withinL,Bool.and_eq_true] at h
     rcases List.mem_cons.1 hu with rfl | hu
     ·exact ⟨_,h.1⟩
     ·exact ihu _ h.2 u hu
   have hnil:k=1 ∨ k=2 ∨ k=3 → ts=[]:=fun hk=>by
    simp only [badHead,Bool.or_eq_false_iff,decide_eq_false_iff_not,Bool.not_eq_false'] at hf1
    have h0:kidsOf k=0:=by rcases hk with rfl | rfl | rfl <;> rfl
    have:=hf1.1.1.1.2
    rw [h0] at this
    have h1:(ts.length:Int)=0:=by simpa using this
    exact List.length_eq_zero_iff.1 (by omega)
   by_cases hk:k=1 ∨ k=2 ∨ k=3
   ·rw [hnil hk] at hu;cases hu
   ·have h1:k ≠ 1:=fun h=>hk (.inl h)
    have h2:k ≠ 2:=fun h=>hk (.inr (.inl h))
    have h3:k ≠ 3:=fun h=>hk (.inr (.inr h))
    rw [T.within,if_neg h1,if_neg h2,if_neg h3] at hw
    obtain ⟨a',ha'⟩:=hkids ts 0 hw u hu
    exact ih u hu (List.all_eq_true.1 hf2 u hu) a' b ha' n hun
theorem scope_consts {t:T} {a b:Int} (h:t.scope a b=true):∀ n,n ∈ t.consts → 0 ≤ n ∧ n < b:=by
 intro n hn
 rw [(consts_facts t).2] at hn
 simp only [T.scope,Bool.and_eq_true,decide_eq_true_eq] at h
 have hf:t.formed=true:=by
  have:=h.1.2
  unfold T.check at this
  split at this
  ·cases this
  ·split at this
   ·cases this
   ·split at this
    ·assumption
    ·cases this
 exact within_consts t hf _ _ h.2 n hn
theorem none_consts {t:T} (h:t.none=true):t.consts=[]:=by
 obtain ⟨k,n,ts⟩:=t
 unfold T.none at h
 simp only [Bool.and_eq_true] at h
 have h1:k=0:=of_decide_eq_true h.1.1
 have h2:ts=[]:=List.isEmpty_iff.1 h.2
 subst h1;subst h2
 simp [T.consts,T.cons,T.consL,sortI]
structure RowOK (l:List En):Prop where
 len:l.length ≤ 200
 ok:∀ e,e ∈ l → e.Ok
 right:∀ (i:Nat) e,l[i]? = some e → e.right i=true
theorem chkE_right:∀ {l:List En} {i:Nat} {ms:BM},chkE l i ms=0 → ∀ (j:Nat) e,l[j]? = some e → e.right ((i + j:Nat):Int)=true
 | [],_,_,_,j,e,h=>by simp at h
 | e :: l,i,ms,h,j,e',hj=>by
  rw [chkE] at h
  by_cases hr:e.right i=false
  ·rw [if_pos hr] at h;cases h
  ·rw [if_neg hr] at h
   cases j with
   | zero=>simp at hj;subst hj;simpa using hr
   | succ j=>
    have hj':l[j]? = some e':=by simpa using hj
    have e1:i + (j + 1)=(i + 1) + j:=by omega
    rw [e1]
    by_cases h3:e.kind < 3
    ·rw [if_pos h3] at h;exact chkE_right h j e' hj'
    ·rw [if_neg h3] at h
     split at h
     ·split at h
      ·exact chkE_right h j e' hj'
      ·cases h
     ·split at h
      ·exact chkE_right h j e' hj'
      ·cases h
theorem chkR_ok {l:List En} (hO:∀ e,e ∈ l → e.Ok) (h:chkR l=0):RowOK l:=by
 unfold chkR at h
 split at h
 ·cases h
 ·exact ⟨by omega,hO,fun i e he=>by have:=chkE_right h i e he;simpa using this⟩
theorem right_base {e:En} {i:Int} (h:e.right i=true) (h3:3 ≤ e.kind):0 ≤ e.base:=by
 unfold En.right at h
 rw [Bool.and_eq_true,if_neg (by omega),if_neg (by omega)] at h
 have:=h.2
 split at this
 ·simp only [Bool.and_eq_true,decide_eq_true_eq] at this
  exact this.1.2
 ·cases this
theorem uses_range {e:En} {i:Nat} (h:e.right i=true):∀ x,x ∈ usesE i e → 0 ≤ x ∧ x < i:=by
 intro x hx
 rw [usesE,sortI_mem,seenE_mem] at hx
 have h0:=h
 unfold En.right at h
 rw [Bool.and_eq_true] at h
 rcases hx with (hx | hx) | ⟨h3,h4,h5⟩
 ·exact scope_consts h.1 x hx
 ·have h2:=h.2
  split at h2
  ·simp only [Bool.and_eq_true] at h2
   rw [none_consts h2.2] at hx;cases hx
  ·split at h2
   ·simp only [Bool.and_eq_true] at h2
    exact scope_consts h2.2 x hx
   ·split at h2
    ·simp only [Bool.and_eq_true] at h2
     rw [none_consts h2.1.1] at hx;cases hx
    ·cases h2
 ·have:=right_base h0 h3
  omega
theorem usesE_nodup (i:Nat) (e:En):(usesE i e).Nodup:=by
 rw [usesE]
 exact ((List.mergeSort_perm _ _).nodup_iff).2 (seenE_nodup i e)
def usesR (l:List En) (n:Int):List Int × Int:=
 if chkR l ≠ 0 then ([],chkR l) else if n < 0 ∨ (l.length:Int) ≤ n then ([],14) else
  match l[n.toNat]? with | some e=>(usesE n.toNat e,0) | none=>([],14)
theorem fn1021 (l:List En) (hO:∀ e,e ∈ l → e.Ok) (n:Int):Fn Tryz.prog 21 [ens l,ib n] (.tup [is (usesR l n).1,ib (usesR l n).2]):=by
 refine fn_of (base:=1021000) ok1021 rfl fun σ h0 hr=>?_
 have s0:σ.sl 0=.c (.sl 12 160 (l.map En.cells)):=h0 0
 have s1:σ.sl 1=.c (.v (.int .i64 n)):=h0 1
 clear h0 hr
 unfold c1021
 simp [s0,s1]
 refine ECall.fn (fn1027g l hO) (by simp [ens]) (by simp) rfl fun _=>?_
 by_cases hc:chkR l=0
 ·have hR:=chkR_ok hO hc
  by_cases c1:n < 0
  ·simp [ib,hc,s0,s1,c1,r1021,usesR,is]
  ·by_cases c2:(l.length:Int) ≤ n
   ·simp [ib,hc,s0,s1,c1,c2,r1021,usesR,is]
   ·obtain ⟨k,rfl⟩:=Int.eq_ofNat_of_zero_le (a:=n) (by omega)
    obtain ⟨e,he⟩:=at_of (ts:=l) (i:=k) (by omega)
    have hcall:=fn1041g l k (by have:=hR.len;omega) e he (hO e (List.mem_of_getElem? he)) (right_base (hR.right k e he))
    have hu:usesR l k=(usesE k e,0):=by
     unfold usesR
     rw [if_neg (by simp [hc]),if_neg (by omega)]
     simp [he]
    rw [hu]
    simp [ib,hc,s0,s1,c1,c2]
    refine ECall.fn hcall (by simp [ens,ib]) (by simp) rfl fun _=>?_
    simp [r1021,is]
 ·simp [ib,hc,s0,s1,r1021,usesR,is]
end Go.Abs

namespace Go.Abs
open Go.Proofs
def usesAt (l:List En) (y:Int):List Int:=match l[y.toNat]? with | some e=>usesE y.toNat e | none=>[]
inductive Rch (l:List En) (xs:List Int):Int → Prop where
 | base {x:Int} (h:x ∈ xs):Rch l xs x
 | step {x y:Int} (h:Rch l xs y) (h':x ∈ usesAt l y):Rch l xs x
open Classical in
noncomputable def needsL (l:List En) (xs:List Int):List Int:=(nums l.length).filter fun x=>decide (Rch l xs x)
theorem nums_srt (n:Nat):Srt (nums n):=by
 unfold nums Srt
 rw [List.pairwise_map]
 exact List.Pairwise.imp (fun h=>by omega) List.pairwise_lt_range
theorem needsL_srt (l:List En) (xs:List Int):Srt (needsL l xs):=(nums_srt _).filter _
theorem needsL_mem {l:List En} {xs:List Int} {x:Int}:x ∈ needsL l xs ↔ (0 ≤ x ∧ x < l.length) ∧ Rch l xs x:=by
 simp [needsL,mem_nums]
noncomputable def needsR (l:List En) (xs:List Int):List Int × Int:=
 if chkR l ≠ 0 then ([],chkR l) else if xs.any (outE l.length) then ([],14) else (needsL l xs,0)
def ebx (l:List En):Obj:=.box 37 [.sl 12 160 (l.map En.cells)]
theorem sp1039g (tn:Nat) (l:List En) (x:Int):Spec Tryz.prog 39 [ib x,.c (.ref 1017002 tn 0)] [(1017002,tn,ebx l)] (bb (outE l.length x)) [(1017002,tn,ebx l)]:=by
 refine spec_one (base:=1039000) ok1039 rfl fun σ h0 oK gK hr=>?_
 have s0:σ.sl 0=.c (.v (.int .i64 x)):=h0 0
 have s1:σ.sl 1=.c (.ref 1017002 tn 0):=h0 1
 clear h0 hr
 unfold c1039
 by_cases c1:x < 0
 ·simp [s0,s1,oK,gK,ebx,c1]
  refine EndU_one ?_ ?_ ?_ ?_ <;> simp [r1039,outE,bb,c1,oK,gK,ebx]
 ·simp [s0,s1,oK,gK,ebx,c1]
  refine EndU_one ?_ ?_ ?_ ?_ <;> simp [r1039,outE,bb,c1,oK,gK,ebx]
theorem sp1060g (tn:Nat) (es:List En) (l:List Int):Spec Tryz.prog 60 [is l,.c (.clo 39 [] [(1017002,tn)])] [(1017002,tn,ebx es)] (ib (fstOut es.length l 0)) [(1017002,tn,ebx es)]:=by
 refine spec_one (base:=1060000) ok1060 rfl fun σ h0 oK gK hr=>?_
 have hl:=real_is (hr (is l) (by simp))
 have s0:σ.sl 0=.c (.sl 1 8 (ic l)):=h0 0
 have s1:σ.sl 1=.c (.clo 39 [] [(1017002,tn)]):=h0 1
 clear h0 hr
 unfold c1060
 simp [s0,s1,-W_block]
 rw [W_block]
 refine W_loop (fun m σ=>∃ i:Nat,i + m=l.length ∧ fstOut es.length (l.drop i) i=fstOut es.length l 0 ∧ σ.sl 0=.c (.sl 1 8 (ic l)) ∧ σ.sl 1=.c (.clo 39 [] [(1017002,tn)]) ∧ σ.sl 7=.c (.v (.int .i64 l.length)) ∧ σ.sl 8=.c (.v (.int .i64 i)) ∧ σ.ob 1017002=some (ebx es) ∧ σ.tg 1017002=tn) l.length ⟨0,by simp [s0,s1,oK,gK]⟩ ?_
 clear s0 s1 oK gK σ
 rintro m σ ⟨i,hm,hp,s0,s1,s7,s8,oK,gK⟩
 unfold c1060b0
 by_cases hi:i < l.length
 ·have w1:=wrap_succ (i:=i) (by omega)
  obtain ⟨p,hp1⟩:=at_of hi
  obtain ⟨_,hp2⟩:=getE hp1
  rw [drop_at hp1,fstOut] at hp
  simp [s0,s1,s7,s8,oK,gK,hi,hp2]
  refine ECall.ro (args:=[ib p]) [(1017002,tn,ebx es)] (by simpa [refs] using sp1039g tn es p) (by simp [toD2,toD1,ib,toD]) (by simp) rfl (Ro.one (by simp [oK]) (by simp [gK]) rfl) fun _=>?_
  cases hb:outE es.length p with
  | true=>
   rw [hb] at hp
   simp [bb]
   refine EndU_one ?_ ?_ ?_ ?_ <;> simp [r1060,oK,gK,ib,← hp]
  | false=>
   rw [hb] at hp
   simp [bb,w1,s0,s1,s7,s8,oK,gK]
   exact ⟨m - 1,by omega,i + 1,by omega,by simpa using hp,rfl⟩
 ·have:i=l.length:=by omega
  subst this
  simp [fstOut] at hp
  simp [s0,s1,s7,s8,oK,gK]
  refine EndU_one ?_ ?_ ?_ ?_ <;> simp [r1060,oK,gK,ib,← hp]
theorem sp1038g (tn:Nat) (es:List En) (l:List Int):Spec Tryz.prog 38 [is l,.c (.clo 39 [] [(1017002,tn)])] [(1017002,tn,ebx es)] (bb (l.any (outE es.length))) [(1017002,tn,ebx es)]:=by
 refine spec_one (base:=1038000) ok1038 rfl fun σ h0 oK gK hr=>?_
 have s0:σ.sl 0=.c (.sl 1 8 (ic l)):=h0 0
 have s1:σ.sl 1=.c (.clo 39 [] [(1017002,tn)]):=h0 1
 clear h0 hr
 unfold c1038
 simp [s0,s1]
 refine ECall.ro (rs:=[]) (args:=[is l,.c (.clo 39 [] [(1017002,tn)])]) [(1017002,tn,ebx es)] (by simpa [refs] using sp1060g tn es l) (by simp [toD2,toD1,is,toD,ic]) (by simp) rfl (Ro.one (by simp [oK]) (by simp [gK]) rfl) fun _=>?_
 simp [ib]
 refine EndU_one ?_ ?_ ?_ ?_ <;> simp [r1038,oK,gK,bb,← fstOut_any es.length l 0]
theorem mget_encK (ks:List Int) (n:Int):mgetL (encK ks) n=if n ∈ ks then some [.v (.bool true)] else none:=by
 induction ks with
 | nil=>rfl
 | cons k ks ih=>
  simp only [mgetL,encK,List.map_cons,List.find?_cons] at ih ⊢
  by_cases h:k=n
  ·subst h;simp
  ·have h1:(k == n)=false:=by simpa using h
   simp only [h1]
   rw [ih]
   have:(n ∈ k :: ks) ↔ n ∈ ks:=by simp [Ne.symm h]
   simp only [this]
structure CS (l:List En) (xs todo seen:List Int):Prop where
 nodup:seen.Nodup
 range:∀ x,x ∈ todo ∨ x ∈ seen → 0 ≤ x ∧ x < l.length
 rch:∀ x,x ∈ todo ∨ x ∈ seen → Rch l xs x
 all:∀ x,x ∈ xs → x ∈ todo ∨ x ∈ seen
 clo:∀ y,y ∈ seen → ∀ x,x ∈ usesAt l y → x ∈ todo ∨ x ∈ seen
theorem CS.skip {l:List En} {xs ini seen:List Int} {n:Int} (h:CS l xs (ini ++ [n]) seen) (hn:n ∈ seen):CS l xs ini seen:=by
 have key:∀ x,x ∈ ini ++ [n] ∨ x ∈ seen → x ∈ ini ∨ x ∈ seen:=fun x hx=>by
  rcases hx with hx | hx
  ·rcases List.mem_append.1 hx with hx | hx
   ·exact .inl hx
   ·simp at hx;subst hx;exact .inr hn
  ·exact .inr hx
 have sub:∀ x,x ∈ ini ∨ x ∈ seen → x ∈ ini ++ [n] ∨ x ∈ seen:=fun x hx=>by
  rcases hx with hx | hx
  ·exact .inl (by simp [hx])
  ·exact .inr hx
 exact ⟨h.nodup,fun x hx=>h.range x (sub x hx),fun x hx=>h.rch x (sub x hx),fun x hx=>key x (h.all x hx),fun y hy x hx=>key x (h.clo y hy x hx)⟩
theorem CS.take {l:List En} (hR:RowOK l) {xs ini seen:List Int} {n:Int} (h:CS l xs (ini ++ [n]) seen) (hn:n ∉ seen):CS l xs (ini ++ usesAt l n) (addK seen n) ∧ (addK seen n).length=seen.length + 1 ∧ (usesAt l n).length ≤ 200:=by
 have hnr:=h.range n (.inl (by simp))
 obtain ⟨e,he⟩:=at_of (ts:=l) (i:=n.toNat) (by omega)
 have hu:usesAt l n=usesE n.toNat e:=by simp [usesAt,he]
 have hur:=uses_range (hR.right n.toNat e he)
 refine ⟨⟨addK_nodup h.nodup,fun x hx=>?_,fun x hx=>?_,fun x hx=>?_,fun y hy x hx=>?_⟩,?_,?_⟩
 ·rcases hx with hx | hx
  ·rcases List.mem_append.1 hx with hx | hx
   ·exact h.range x (.inl (by simp [hx]))
   ·rw [hu] at hx;have:=hur x hx;omega
  ·rcases addK_mem.1 hx with hx | rfl
   ·exact h.range x (.inr hx)
   ·exact hnr
 ·rcases hx with hx | hx
  ·rcases List.mem_append.1 hx with hx | hx
   ·exact h.rch x (.inl (by simp [hx]))
   ·exact .step (h.rch n (.inl (by simp))) hx
  ·rcases addK_mem.1 hx with hx | rfl
   ·exact h.rch x (.inr hx)
   ·exact h.rch x (.inl (by simp))
 ·rcases h.all x hx with hx | hx
  ·rcases List.mem_append.1 hx with hx | hx
   ·exact .inl (by simp [hx])
   ·simp at hx;subst hx;exact .inr (addK_mem.2 (.inr rfl))
  ·exact .inr (addK_mem.2 (.inl hx))
 ·rcases addK_mem.1 hy with hy | rfl
  ·rcases h.clo y hy x hx with hx | hx
   ·rcases List.mem_append.1 hx with hx | hx
    ·exact .inl (by simp [hx])
    ·simp at hx;subst hx;exact .inr (addK_mem.2 (.inr rfl))
   ·exact .inr (addK_mem.2 (.inl hx))
  ·exact .inl (by simp [hx])
 ·simp [addK,hn]
 ·rw [hu]
  have:=nodup_le (n:=n.toNat) (usesE_nodup n.toNat e) fun x hx=>hur x hx
  have:=hR.len
  omega
theorem CS.done {l:List En} {xs seen:List Int} (h:CS l xs [] seen):sortI seen=needsL l xs:=by
 have key:∀ x,Rch l xs x → x ∈ seen:=fun x hx=>by
  induction hx with
  | base hx=>
   rcases h.all _ hx with hx | hx
   ·cases hx
   ·exact hx
  | step _ h' ih=>
   rcases h.clo _ ih _ h' with hx | hx
   ·cases hx
   ·exact hx
 refine srt_ext (sortI_srt h.nodup) (needsL_srt l xs) fun n=>?_
 rw [sortI_mem,needsL_mem]
 constructor
 ·intro hn
  exact ⟨h.range n (.inr hn),h.rch n (.inr hn)⟩
 ·rintro ⟨_,hn⟩
  exact key n hn
structure NSg (l:List En) (K:Nat) (todo seen:List Int) (σ:St):Prop where
 s2:σ.sl 2=.c (.ref 1017002 (σ.tg 1017002) 0)
 o2:σ.ob 1017002=some (ebx l)
 s7:σ.sl 7=.c (.mp 1017020 (σ.tg 1017020))
 o7:σ.ob 1017020=some (.mob true (encK seen))
 s8:σ.sl 8=.c (.own K (σ.tg K))
 o8:σ.ob K=some (hrow todo)
theorem snoc_of {l:List Int} (h:0 < l.length):∃ ini n,l=ini ++ [n]:=⟨_,_,last_of h⟩
def NJ (l:List En) (xs:List Int) (m:Nat) (σ:St):Prop:=∃ K todo seen,(K=1017300 ∨ K=1017036 ∨ K=1017046) ∧ CS l xs todo seen ∧ seen.length ≤ l.length ∧ (l.length - seen.length) * 201 + todo.length ≤ m ∧ m ≤ 2000000 ∧ NSg l K todo seen σ
theorem loop1017 {σ:St} {Q:SEx → St → Prop} (l:List En) (hR:RowOK l) (xs todo:List Int) (hx:xs.length ≤ 1000000) (hC:CS l xs todo []) (ht:todo.length ≤ 1000000) (H:NSg l 1017300 todo [] σ)
  (hQ:∀ σ' seen,CS l xs [] seen → σ'.sl 7=.c (.mp 1017020 (σ'.tg 1017020)) → σ'.ob 1017020=some (.mob true (encK seen)) → Q .normal σ'):W Tryz.prog 1017000 (.loop c1017b0) σ (onBlock 1 Q):=by
 refine W_loop (NJ l xs) (l.length * 201 + todo.length) ⟨1017300,todo,[],.inl rfl,hC,by simp,by simp,by have:=hR.len;omega,H⟩ ?_
 clear hC ht H σ
 rintro m σ ⟨K,todo,seen,hK,hC,hsl,hm,hm2,s2,o2,s7,o7,s8,o8⟩
 unfold c1017b0
 by_cases h0:0 < todo.length
 ·obtain ⟨ini,n,rfl⟩:=snoc_of h0
  have hil:ini.length ≤ 2000000:=by simp at hm;omega
  have w1:IntKind.wrap .i64 ((ini.length:Int) + 1 - 1)=(ini.length:Int):=by rw [wrap_id (by omega) (by omega)];omega
  have w1':IntKind.wrap .i64 (ini.length:Int)=(ini.length:Int):=wrap_id (by omega) (by omega)
  have hat:(ic (ini ++ [n]))[ini.length]? = some [.v (.int .i64 n)]:=by rw [← ic_append,List.getElem?_append_right (by simp)];simp [ic]
  have htk:=ic_take ini n
  have hmg:=mget_encK seen n
  have hnr:=hC.range n (.inl (by simp))
  obtain ⟨e,he⟩:=at_of (ts:=l) (i:=n.toNat) (by omega)
  have hcall:=fn1041g l n.toNat (by have:=hR.len;omega) e he (hR.ok e (List.mem_of_getElem? he)) (right_base (hR.right n.toNat e he))
  have hu:usesAt l n=usesE n.toNat e:=by simp [usesAt,he]
  have hnn:((n.toNat:Nat):Int)=n:=by omega
  rw [hnn,← hu] at hcall
  by_cases hn:n ∈ seen
  ·rw [if_pos hn] at hmg
   have hC':=hC.skip hn
   rcases hK with rfl | rfl | rfl <;>
   ·simp [s2,o2,s7,o7,s8,o8,hrow,w1,w1',hat,htk,hmg,mres,mval]
    simp at hm
    exact ⟨by omega,⟨by omega,by simp [room];omega⟩,m - 1,by omega,1017036,ini,seen,by simp,hC',hsl,by omega,by omega,⟨by simp [s2],by simp [o2],by simp [s7],by simp [o7],by simp,by simp [hrow,htk]⟩⟩
  ·rw [if_neg hn] at hmg
   obtain ⟨hC',hl1,hl2⟩:=hC.take hR hn
   have hset:=mset_encK seen n
   have hsl':(addK seen n).length ≤ l.length:=nodup_le hC'.nodup fun x hx=>hC'.range x (.inr hx)
   generalize usesAt l n=us at *
   cases us with
   | nil=>
    rcases hK with rfl | rfl | rfl <;>
    ·simp [s2,o2,s7,o7,s8,o8,hrow,w1,w1',hat,htk,hmg,mres,mval,hset,ebx]
     refine ⟨by omega,⟨by omega,by simp [room];omega⟩,?_⟩
     refine ECall.fn hcall (by simp [ens,ib]) (by simp) rfl fun hx2=>?_
     clear hx2
     simp [is]
     simp at hm
     exact ⟨m - 1,by omega,1017036,ini,addK seen n,by simp,by simpa using hC',hsl',by omega,by omega,⟨by simp [s2],by simp [o2,ebx],by simp [s7],by simp,by simp,by simp [hrow,htk]⟩⟩
   | cons u us=>
    rcases hK with rfl | rfl | rfl <;>
    ·simp [s2,o2,s7,o7,s8,o8,hrow,w1,w1',hat,htk,hmg,mres,mval,hset,ebx]
     refine ⟨by omega,⟨by omega,by simp [room];omega⟩,?_⟩
     refine ECall.fn hcall (by simp [ens,ib]) (by simp) rfl fun hx2=>?_
     clear hx2
     simp at hm hl2
     simp [is]
     refine ⟨by simp [room];omega,?_⟩
     exact ⟨m - 1,by omega,1017046,ini ++ u :: us,addK seen n,by simp,hC',hsl',by simp;omega,by omega,⟨by simp [s2],by simp [o2,ebx],by simp [s7],by simp,by simp,by simp [hrow,htk,ic]⟩⟩
 ·have:todo=[]:=List.length_eq_zero_iff.1 (by omega)
  subst this
  rcases hK with rfl | rfl | rfl <;>
  ·simp [s8,o8,hrow]
   exact hQ _ seen hC (by simp [s7]) (by simp [o7])
theorem fn1017g (l:List En) (hO:∀ e,e ∈ l → e.Ok) (xs:List Int) (hx:xs.length ≤ 1000000):Fn Tryz.prog 17 [ens l,is xs] (.tup [is (needsR l xs).1,ib (needsR l xs).2]):=by
 refine fn_of (base:=1017000) ok1017 rfl fun σ h0 hr=>?_
 have s0:σ.sl 0=.c (.sl 12 160 (l.map En.cells)):=h0 0
 have s1:σ.sl 1=.c (.sl 1 8 (ic xs)):=h0 1
 clear h0 hr
 unfold c1017
 simp [s0,s1]
 refine ECall.fn (fn1027g l hO) (by simp [ens]) (by simp) rfl fun hx2=>?_
 clear hx2
 by_cases hc:chkR l=0
 ·have hR:=chkR_ok hO hc
  simp [hc,ib,s1]
  refine ECall.ro (rs:=[]) (args:=[is xs,.c (.clo 39 [] [(1017002,σ.tg 1017002 + 1)])]) [(1017002,σ.tg 1017002 + 1,ebx l)] (by simpa [refs] using sp1038g (σ.tg 1017002 + 1) l xs) (by simp [toD2,toD1,is,toD,ic]) (by simp) rfl (Ro.one (by simp [ebx]) (by simp) rfl) fun hx2=>?_
  clear hx2
  cases ha:xs.any (outE l.length) with
  | true=>
   have hn:needsR l xs=([],14):=by rw [needsR,if_neg (by simp [hc]),if_pos ha]
   rw [hn]
   simp [bb,r1017,is]
  | false=>
   have hn:needsR l xs=(needsL l xs,0):=by rw [needsR,if_neg (by simp [hc]),if_neg (by simp [ha])]
   rw [hn]
   have hrg:∀ x,x ∈ xs → 0 ≤ x ∧ x < l.length:=fun x hx=>by
    have:=List.any_eq_false.1 ha x hx
    simp [outE] at this
    omega
   have hCS:CS l xs xs []:=⟨by simp,fun x hx=>hrg x (by simpa using hx),fun x hx=>.base (by simpa using hx),fun x hx=>.inl hx,fun y hy=>by cases hy⟩
   have fin:∀ σ' seen,CS l xs [] seen → σ'.sl 7=.c (.mp 1017020 (σ'.tg 1017020)) → σ'.ob 1017020=some (.mob true (encK seen)) → W Tryz.prog 1017000 (.seq (.reg
   [⟨some 47,none,.mv (.t 7)⟩,
    ⟨some 48,none,.call (.f 43) [.t 47]⟩,
    ⟨some 49,none,.call (.f 42) [.t 48]⟩,
    ⟨some 4,none,.mv (.t 49)⟩,
    ⟨some 5,none,.mv (.k (.int .i64 0))⟩]) (.ret)) σ' (onEnd [] r1017 (.tup [is (needsL l xs),ib 0]) []):=by
    intro σ' seen hC q7 o7
    have hsl:seen.length ≤ l.length:=nodup_le hC.nodup fun x hx=>hC.range x (.inr hx)
    have hll:=hR.len
    have hdone:=hC.done
    simp [q7]
    refine ECall.keys (k:=1017020) (one:=true) (es:=encK seen) (by simp [o7]) (by simp) ?_
    simp
    refine ECall.sorted 1017301 (k:=1017020) (one:=true) (es:=encK seen) (by simp [o7]) (by simp) (by omega) ?_ ?_ ?_
    ·intro p hp
     obtain ⟨x,hx,rfl⟩:=List.mem_map.1 hp
     have:=hC.range x (.inr hx)
     exact ⟨by omega,by omega⟩
    ·simp [encK];omega
    ·simp [r1017,is,isL,encK_keys,hdone,ib]
   cases xs with
   | nil=>
    simp [bb,s1]
    refine ECall.fn fnClone0 (by simp [ic]) (by simp) rfl fun hx2=>?_
    clear hx2
    simp [-W_block]
    rw [W_block]
    refine W_loop (fun m σ=>σ.sl 8=.c (.sl 1 8 []) ∧ σ.sl 7=.c (.mp 1017020 (σ.tg 1017020)) ∧ σ.ob 1017020=some (.mob true (encK []))) 1 ?_ ?_
    ·exact ⟨by simp,by simp,by simp [encK]⟩
    clear s0 s1 σ
    rintro m σ ⟨s8,s7,o7⟩
    unfold c1017b0
    have:=fin (((σ.set 23 (.c (.sl 1 8 []))).set 24 (.c (.v (.int .i64 0)))).set 25 (.c (.v (.bool false)))) [] hCS (by simp [s7]) (by simp [o7])
    simp [s8] at this ⊢
    exact this
   | cons x r=>
    simp [bb,s1]
    refine ECall.new 1017300 (new1040 x r) rfl rfl (by simp [toD2,toD1,is,toD,ic]) (by simp) fun hx=>?_
    clear hx
    simp
    refine loop1017 l hR (x :: r) (x :: r) hx hCS hx ⟨by simp,by simp [ebx],by simp,by simp [encK],by simp,by simp⟩ fun σ' seen hC q7 o7=>?_
    exact fin σ' seen hC q7 o7
 ·have hn:needsR l xs=([],chkR l):=by rw [needsR,if_pos hc]
  rw [hn]
  simp [hc,ib,r1017,is]
end Go.Abs

namespace Go.Abs
open Go.Proofs
def hvA (a:A):Bool:=heavy [a.typ] || heavy a.dom || heavy a.idx
def hvAs:List A → Bool
 | []=>false
 | a :: l=>hvA a || hvAs l
def heavyA (l:List A):Bool:=decide (20 < l.length) || hvAs l
theorem fn1059 (l:List A):Fn Tryz.prog 59 [ams l] (bb (heavyA l)):=by
 refine fn_of (base:=1059000) ok1059 rfl fun σ h0 hr=>?_
 have s0:σ.sl 0=.c (.sl 7 104 (l.map A.cells)):=h0 0
 clear h0 hr
 unfold c1059
 by_cases c1:20 < l.length
 ·have c1':(20:Int) < l.length:=by omega
  simp [s0,c1,c1',r1059,bb,heavyA]
 ·have c1':¬ (20:Int) < l.length:=by omega
  have hd:heavyA l=hvAs l:=by simp [heavyA,c1]
  rw [hd]
  simp [s0,c1,c1',-W_block]
  rw [W_block]
  refine W_loop (fun m σ=>∃ i:Nat,i + m=l.length ∧ hvAs (l.drop i)=hvAs l ∧ σ.sl 0=.c (.sl 7 104 (l.map A.cells)) ∧ σ.sl 3=.c (.v (.int .i64 i))) l.length ?_ ?_
  ·exact ⟨0,by simp,by simp,by simp [s0],by simp⟩
  clear s0 σ
  rintro m σ ⟨i,hm,hp,s0,s3⟩
  unfold c1059b0
  by_cases hi:i < l.length
  ·have w1:=wrap_succ (i:=i) (by omega)
   obtain ⟨a,ha⟩:=at_of hi
   obtain ⟨_,ha2⟩:=getE ha
   rw [drop_at ha,hvAs] at hp
   have f1:=fn17 [a.typ]
   have f2:=fn17 a.dom
   have f3:=fn17 a.idx
   have hv:hvA a=(heavy [a.typ] || heavy a.dom || heavy a.idx):=rfl
   generalize heavy [a.typ]=z1 at *
   generalize heavy a.dom=z2 at *
   generalize heavy a.idx=z3 at *
   rw [hv] at hp
   simp [s0,s3,hi,ha2,A.cells]
   refine ⟨by simp [room],ECall.fn f1 (by simp [tms,cells_eq a.typ]) (by simp) rfl fun _=>?_⟩
   simp [bb,s0,s3,hi,ha2,A.cells]
   refine GCall.fn (fun _=>f2) (by simp [tms]) (by simp) rfl fun _=>?_
   cases z1 with
   | true=>
    simp at hp
    simp [bb,s0,s3,hi,ha2,A.cells]
    refine GCall.fn (fun _=>f3) (by simp [tms]) (by simp) rfl fun _=>?_
    simp [bb,r1059,hp]
   | false=>
    cases z2 with
    | true=>
     simp at hp
     simp [bb,s0,s3,hi,ha2,A.cells]
     refine GCall.fn (fun _=>f3) (by simp [tms]) (by simp) rfl fun _=>?_
     simp [bb,r1059,hp]
    | false=>
     simp [bb,s0,s3,hi,ha2,A.cells]
     refine GCall.fn (fun _=>f3) (by simp [tms]) (by simp) rfl fun _=>?_
     cases z3 with
     | true=>
      simp at hp
      simp [bb,r1059,hp]
     | false=>
      simp [bb,s0,s3,w1]
      exact ⟨m - 1,by omega,i + 1,by omega,by simpa using hp,rfl⟩
  ·have:i=l.length:=by omega
   subst this
   simp [hvAs] at hp
   simp [s0,s3,r1059,bb,hp]
def hvS (s:S):Bool:=heavyA s.idx || heavy [s.decType]
def hvSs:List S → Bool
 | []=>false
 | s :: l=>hvS s || hvSs l
def hvK (c:K):Bool:=heavyA c.args || heavy c.idx || heavy [c.dec]
def hvKs:List K → Bool
 | []=>false
 | c :: l=>hvK c || hvKs l
def heavyB (b:B):Bool:=decide (10 < b.sorts.length) || decide (20 < b.cons.length) || hvSs b.sorts || hvKs b.cons
theorem loop1036a {σ:St} {Q:SEx → St → Prop} (b:B) (hl:b.sorts.length ≤ 10) (s1:σ.sl 1=.c (.ref 1036001 (σ.tg 1036001) 0)) (o1:σ.ob 1036001=some (.box 68 b.cells)) (s3:σ.sl 3=.c (.v (.int .i64 (0:Nat))))
  (hR:∀ σ',hvSs b.sorts=true → σ'.sl 2=bb true → Q .ret σ') (hQ:∀ σ',hvSs b.sorts=false → σ'.sl 1=.c (.ref 1036001 (σ'.tg 1036001) 0) → σ'.ob 1036001=some (.box 68 b.cells) → Q .normal σ'):W Tryz.prog 1036000 (.loop c1036b0) σ (onBlock 0 Q):=by
 refine W_loop (fun m σ=>∃ i:Nat,i + m=b.sorts.length ∧ hvSs (b.sorts.drop i)=hvSs b.sorts ∧ σ.sl 1=.c (.ref 1036001 (σ.tg 1036001) 0) ∧ σ.ob 1036001=some (.box 68 b.cells) ∧ σ.sl 3=.c (.v (.int .i64 i))) b.sorts.length ⟨0,by simp,by simp,s1,o1,s3⟩ ?_
 clear s1 o1 s3 σ
 rintro m σ ⟨i,hm,hp,s1,o1,s3⟩
 unfold c1036b0
 by_cases hi:i < b.sorts.length
 ·have w1:=wrap_succ (i:=i) (by omega)
  obtain ⟨s,hs⟩:=at_of hi
  obtain ⟨_,hs2⟩:=getE hs
  rw [drop_at hs,hvSs] at hp
  have f1:=fn1059 s.idx
  have f2:=fn17 [s.decType]
  have hv:hvS s=(heavyA s.idx || heavy [s.decType]):=rfl
  generalize heavyA s.idx=z1 at *
  generalize heavy [s.decType]=z2 at *
  rw [hv] at hp
  simp [s1,o1,s3,hi,hs2,S.cells,B.cells]
  refine ECall.fn f1 (by simp [ams]) (by simp) rfl fun _=>?_
  cases z1 with
  | true=>
   simp at hp
   simp [bb,s1,o1,s3,hi,hs2,S.cells,B.cells]
   refine GCall.fn (fun _=>f2) (by simp [tms,cells_eq s.decType]) (by simp) rfl fun _=>?_
   simp [bb]
   exact hR _ hp (by simp [bb])
  | false=>
   simp [bb,s1,o1,s3,hi,hs2,S.cells,B.cells]
   refine ⟨by simp [room],GCall.fn (fun _=>f2) (by simp [tms,cells_eq s.decType]) (by simp) rfl fun _=>?_⟩
   cases z2 with
   | true=>
    simp at hp
    simp [bb]
    exact hR _ hp (by simp [bb])
   | false=>
    simp [bb,s3,w1]
    exact ⟨m - 1,by omega,i + 1,by omega,by simpa using hp,by simp [s1],by simp [o1,B.cells],by simp⟩
 ·have:i=b.sorts.length:=by omega
  subst this
  simp [hvSs] at hp
  simp [s1,o1,s3,B.cells]
  exact hQ _ hp (by simp [s1]) (by simp [o1,B.cells])
theorem loop1036b {σ:St} {Q:SEx → St → Prop} (b:B) (hl:b.cons.length ≤ 20) (s1:σ.sl 1=.c (.ref 1036001 (σ.tg 1036001) 0)) (o1:σ.ob 1036001=some (.box 68 b.cells)) (s4:σ.sl 4=.c (.v (.int .i64 (0:Nat))))
  (hR:∀ σ',hvKs b.cons=true → σ'.sl 2=bb true → Q .ret σ') (hQ:∀ σ',hvKs b.cons=false → Q .normal σ'):W Tryz.prog 1036000 (.loop c1036b1) σ (onBlock 2 Q):=by
 refine W_loop (fun m σ=>∃ i:Nat,i + m=b.cons.length ∧ hvKs (b.cons.drop i)=hvKs b.cons ∧ σ.sl 1=.c (.ref 1036001 (σ.tg 1036001) 0) ∧ σ.ob 1036001=some (.box 68 b.cells) ∧ σ.sl 4=.c (.v (.int .i64 i))) b.cons.length ⟨0,by simp,by simp,s1,o1,s4⟩ ?_
 clear s1 o1 s4 σ
 rintro m σ ⟨i,hm,hp,s1,o1,s4⟩
 unfold c1036b1
 by_cases hi:i < b.cons.length
 ·have w1:=wrap_succ (i:=i) (by omega)
  obtain ⟨c,hs⟩:=at_of hi
  obtain ⟨_,hs2⟩:=getE hs
  rw [drop_at hs,hvKs] at hp
  have f1:=fn1059 c.args
  have f2:=fn17 c.idx
  have f3:=fn17 [c.dec]
  have hv:hvK c=(heavyA c.args || heavy c.idx || heavy [c.dec]):=rfl
  generalize heavyA c.args=z1 at *
  generalize heavy c.idx=z2 at *
  generalize heavy [c.dec]=z3 at *
  rw [hv] at hp
  simp [s1,o1,s4,hi,hs2,K.cells,B.cells]
  refine ECall.fn f1 (by simp [ams]) (by simp) rfl fun _=>?_
  simp [bb,s1,o1,s4,hi,hs2,K.cells,B.cells]
  refine GCall.fn (fun _=>f2) (by simp [tms]) (by simp) rfl fun _=>?_
  cases z1 with
  | true=>
   simp at hp
   simp [bb,s1,o1,s4,hi,hs2,K.cells,B.cells]
   refine GCall.fn (fun _=>f3) (by simp [tms,cells_eq c.dec]) (by simp) rfl fun _=>?_
   simp [bb]
   exact hR _ hp (by simp [bb])
  | false=>
   cases z2 with
   | true=>
    simp at hp
    simp [bb,s1,o1,s4,hi,hs2,K.cells,B.cells]
    refine GCall.fn (fun _=>f3) (by simp [tms,cells_eq c.dec]) (by simp) rfl fun _=>?_
    simp [bb]
    exact hR _ hp (by simp [bb])
   | false=>
    simp [bb,s1,o1,s4,hi,hs2,K.cells,B.cells]
    refine ⟨by simp [room],GCall.fn (fun _=>f3) (by simp [tms,cells_eq c.dec]) (by simp) rfl fun _=>?_⟩
    cases z3 with
    | true=>
     simp at hp
     simp [bb]
     exact hR _ hp (by simp [bb])
    | false=>
     simp [bb,s4,w1]
     exact ⟨m - 1,by omega,i + 1,by omega,by simpa using hp,by simp [s1],by simp [o1,B.cells],by simp⟩
 ·have:i=b.cons.length:=by omega
  subst this
  simp [hvKs] at hp
  simp [s1,o1,s4,B.cells]
  exact hQ _ hp
theorem fn1036 (b:B):Fn Tryz.prog 36 [bm b] (bb (heavyB b)):=by
 refine fn_of (base:=1036000) ok1036 rfl fun σ h0 hr=>?_
 have s0:σ.sl 0=bm b:=h0 0
 simp only [bm] at s0
 clear h0 hr
 unfold c1036
 by_cases c1:10 < b.sorts.length
 ·have c1':(10:Int) < b.sorts.length:=by omega
  simp [s0,B.cells,c1,c1',r1036,bb,heavyB]
 ·have c1':¬ (10:Int) < b.sorts.length:=by omega
  by_cases c2:20 < b.cons.length
  ·have c2':(20:Int) < b.cons.length:=by omega
   simp [s0,B.cells,c1,c1',c2,c2',r1036,bb,heavyB]
  ·have c2':¬ (20:Int) < b.cons.length:=by omega
   simp [s0,B.cells,c1,c1',c2,c2']
   refine loop1036a b (by omega) (by simp) (by simp [B.cells]) (by simp) (fun σ' e q=>?_) fun σ' e q1 o1=>?_
   ·simp [q,r1036,bb,heavyB,e]
   simp [q1,o1]
   refine loop1036b b (by omega) (by simp [q1]) (by simp [o1]) (by simp) (fun σ'' e2 q=>?_) fun σ'' e2=>?_
   ·simp [q,r1036,bb,heavyB,e2]
   ·simp [r1036,bb,heavyB,c1,c2,e,e2]
def hvE (e:En):Bool:=heavy [e.typ,e.body] || heavyB e.block
def hvEs:Int → List En → Bool
 | n,[]=>decide (20000 < n)
 | n,e :: l=>if hvE e then true else hvEs (IntKind.wrap .i64 (IntKind.wrap .i64 (n + e.typ.size) + e.body.size)) l
def heavyEnv (l:List En):Bool:=if 220 < l.length then true else hvEs 0 l
theorem fn1016 (l:List En):Fn Tryz.prog 16 [ens l] (bb (heavyEnv l)):=by
 refine fn_of (base:=1016000) ok1016 rfl fun σ h0 hr=>?_
 have s0:σ.sl 0=.c (.sl 12 160 (l.map En.cells)):=h0 0
 clear h0 hr
 unfold c1016
 by_cases c1:220 < l.length
 ·have c1':(220:Int) < l.length:=by omega
  simp [s0,c1,c1',r1016,bb,heavyEnv]
 ·have c1':¬ (220:Int) < l.length:=by omega
  have hd:heavyEnv l=hvEs 0 l:=by rw [heavyEnv,if_neg c1]
  rw [hd]
  simp [s0,c1,c1',-W_block]
  rw [W_block]
  refine W_loop (fun m σ=>∃ i n,i + m=l.length ∧ hvEs n (l.drop i)=hvEs 0 l ∧ σ.sl 0=.c (.sl 12 160 (l.map En.cells)) ∧ σ.sl 3=.c (.v (.int .i64 n)) ∧ σ.sl 4=.c (.v (.int .i64 (i:Nat)))) l.length ?_ ?_
  ·exact ⟨0,0,by simp,by simp,by simp [s0],by simp,by simp⟩
  clear s0 σ
  rintro m σ ⟨i,n,hm,hp,s0,s3,s4⟩
  unfold c1016b0
  by_cases hi:i < l.length
  ·have w1:=wrap_succ (i:=i) (by omega)
   obtain ⟨e,he⟩:=at_of hi
   obtain ⟨_,he2⟩:=getE he
   rw [drop_at he,hvEs] at hp
   have f1:=fn17 [e.typ,e.body]
   have f2:=fn1036 e.block
   have g1:=fn28 e.typ
   have g2:=fn28 e.body
   have hv:hvE e=(heavy [e.typ,e.body] || heavyB e.block):=rfl
   generalize heavy [e.typ,e.body]=z1 at *
   generalize heavyB e.block=z2 at *
   rw [hv] at hp
   simp [s0,s3,s4,hi]
   refine W_dregA ?_
   simp [s0,s3,s4,hi,he2,En.cells]
   refine ⟨by simp [room],CallA.fn f1 (by simp [tms,cells_eq e.typ,cells_eq e.body]) (by simp) rfl ?_⟩
   cases z1 with
   | true=>
    simp at hp
    simp [bb,s0,s3,s4,hi,he2,En.cells]
    refine GCallA.fn (fun _=>f2) (by simp [bm,B.cells]) (by simp) rfl ?_
    simp [bb]
    refine realC_n ?_
    simp [r1016,hp]
   | false=>
    simp [bb,s0,s3,s4,hi,he2,En.cells]
    refine GCallA.fn (fun _=>f2) (by simp [bm,B.cells]) (by simp) rfl ?_
    cases z2 with
    | true=>
     simp at hp
     simp [bb]
     refine realC_n ?_
     simp [r1016,hp]
    | false=>
     simp at hp
     simp [bb]
     refine realC_n ?_
     simp [s0,s3,s4,hi]
     refine W_dregA ?_
     simp [s0,s3,s4,hi,he2,En.cells]
     refine CallA.fn g1 (by simp [tm,cells_eq e.typ]) (by simp) rfl ?_
     simp [ib,s0,s3,s4,hi,he2,En.cells]
     refine CallA.fn g2 (by simp [tm,cells_eq e.body]) (by simp) rfl ?_
     simp [ib]
     refine realC_n ?_
     simp [s0,s4,w1]
     exact ⟨m - 1,by omega,i + 1,by omega,_,hp,rfl,rfl⟩
  ·have:i=l.length:=by omega
   subst this
   simp [hvEs] at hp
   simp [s0,s3,s4,r1016,bb,hp]
end Go.Abs

namespace Go.Abs
theorem nextG_is {n:Nat} {E:List Edge2} {out:List Int} {k:Int} (h:nextG n E out=some k):0 ≤ k ∧ k < n ∧ k ∉ out ∧ pre E out k=0 ∧ ∀ j:Int,0 ≤ j → j < k → j ∉ out → pre E out j ≠ 0:=by
 have h1:=List.find?_some h
 have h2:=mem_nums.1 (List.mem_of_find?_eq_some h)
 simp only [Bool.and_eq_true,Bool.not_eq_true',beq_iff_eq] at h1
 have hk:k ∉ out:=by simpa using h1.1
 refine ⟨h2.1,h2.2,hk,h1.2,fun j j0 jk jo jp=>?_⟩
 -- a lesser one would have been found
 by_cases hex:∃ j:Nat,(j:Int) < k ∧ (j:Int) ∉ out ∧ pre E out (j:Int)=0
 ·obtain ⟨m,hm,hmin⟩:∃ m:Nat,((m:Int) < k ∧ (m:Int) ∉ out ∧ pre E out (m:Int)=0) ∧ ∀ i:Nat,i < m → ¬ ((i:Int) < k ∧ (i:Int) ∉ out ∧ pre E out (i:Int)=0):=by
   obtain ⟨j,hj⟩:=hex
   induction j using Nat.strongRecOn with
   | ind j ih=>
    by_cases h:∃ i:Nat,i < j ∧ ((i:Int) < k ∧ (i:Int) ∉ out ∧ pre E out (i:Int)=0)
    ·obtain ⟨i,hi,hi2⟩:=h
     exact ih i hi hi2
    ·exact ⟨j,hj,fun i hi h2=>h ⟨i,hi,h2⟩⟩
  have:=nextG_some (n:=n) (E:=E) (out:=out) (k:=(m:Int)) (by omega) (by omega) hm.2.1 hm.2.2 fun i i0 im io ip=>by
   obtain ⟨i',rfl⟩:=Int.eq_ofNat_of_zero_le i0
   exact hmin i' (by omega) ⟨by omega,io,ip⟩
  rw [h] at this
  cases this
  omega
 ·obtain ⟨j',rfl⟩:=Int.eq_ofNat_of_zero_le j0
  exact hex ⟨j',jk,jo,jp⟩
inductive Run (n:Nat) (E:List Edge2):List Int → Prop where
 | nil:Run n E []
 | snoc {out:List Int} {k:Int} (h:Run n E out) (hk:nextG n E out=some k):Run n E (out ++ [k])
theorem Run.nodup {n:Nat} {E:List Edge2} {out:List Int} (h:Run n E out):out.Nodup:=by
 induction h with
 | nil=>simp
 | snoc h hk ih=>
  rw [List.nodup_append]
  exact ⟨ih,by simp,fun a ha b hb=>by simp at hb;subst hb;intro e;subst e;exact (nextG_is hk).2.2.1 ha⟩
theorem Run.range {n:Nat} {E:List Edge2} {out:List Int} (h:Run n E out):∀ x,x ∈ out → 0 ≤ x ∧ x < n:=by
 induction h with
 | nil=>simp
 | snoc h hk ih=>
  intro x hx
  rcases List.mem_append.1 hx with hx | hx
  ·exact ih x hx
  ·simp at hx;subst hx;have:=nextG_is hk;exact ⟨this.1,this.2.1⟩
theorem Run.at {n:Nat} {E:List Edge2} {out:List Int} (h:Run n E out):∀ (i:Nat) k,out[i]? = some k → nextG n E (out.take i)=some k:=by
 induction h with
 | nil=>simp
 | snoc h hk ih=>
  rename_i out k0
  intro i k hi
  by_cases hl:i < out.length
  ·rw [List.getElem?_append_left hl] at hi
   rw [List.take_append_of_le_length (by omega)]
   exact ih i k hi
  ·have hi':i=out.length:=by
    have:=(List.getElem?_eq_some_iff.1 hi).1
    simp at this;omega
   subst hi'
   simp at hi
   subst hi
   simpa using hk
theorem greedy_run {n:Nat} {E:List Edge2}:∀ (f:Nat) (out:List Int),Run n E out → Run n E (greedy n E f out) ∧ (n ≤ f + out.length → nextG n E (greedy n E f out)=none)
 | 0,out,h=>⟨h,fun hf=>by
  cases hx:nextG n E out with
  | none=>exact hx
  | some k=>
   have h2:=(Run.snoc h hx)
   have:=nodup_le h2.nodup h2.range
   simp at this
   simp at hf
   omega⟩
 | f + 1,out,h=>by
  rw [greedy]
  cases hx:nextG n E out with
  | none=>exact ⟨h,fun _=>hx⟩
  | some k=>
   obtain ⟨h1,h2⟩:=greedy_run f (out ++ [k]) (h.snoc hx)
   exact ⟨h1,fun hf=>h2 (by simp;omega)⟩
def gr (n:Nat) (E:List Edge2):List Int:=greedy n E n []
theorem gr_run (n:Nat) (E:List Edge2):Run n E (gr n E):=(greedy_run n [] .nil).1
theorem gr_stop (n:Nat) (E:List Edge2):nextG n E (gr n E)=none:=(greedy_run n [] .nil).2 (by simp)
theorem Run.eq_of {n:Nat} {E:List Edge2} {a b:List Int} (ha:Run n E a) (hb:Run n E b) (h:a.length=b.length):a=b:=by
 refine List.ext_getElem? fun i=>?_
 induction i using Nat.strongRecOn with
 | ind i ih=>
  by_cases hi:i < a.length
  ·have e:a.take i=b.take i:=by
    refine List.ext_getElem? fun j=>?_
    rw [List.getElem?_take,List.getElem?_take]
    split
    ·rename_i hj;exact ih j hj
    ·rfl
   have h1:=ha.at i a[i] (by simp [hi])
   have h2:=hb.at i b[i] (by simp [h ▸ hi])
   rw [e,h2] at h1
   rw [List.getElem?_eq_getElem hi,List.getElem?_eq_getElem (h ▸ hi)]
   exact h1.symm
  ·rw [List.getElem?_eq_none (by omega),List.getElem?_eq_none (by omega)]
theorem Run.gr {n:Nat} {E:List Edge2} {a:List Int} (ha:Run n E a) (h:nextG n E a=none):gr n E=a:=by
 have key:∀ {a b:List Int},Run n E a → nextG n E a=none → Run n E b → b.length ≤ a.length:=fun {a b} ha h hb=>by
  by_cases hl:b.length ≤ a.length
  ·exact hl
  ·exfalso
   have hl:a.length < b.length:=by omega
   -- b's beginning is a
   have e:b.take a.length=a:=by
    refine List.ext_getElem? fun i=>?_
    rw [List.getElem?_take]
    induction i using Nat.strongRecOn with
    | ind i ih=>
     by_cases hi:i < a.length
     ·rw [if_pos hi]
      have e:b.take i=a.take i:=by
       refine List.ext_getElem? fun j=>?_
       rw [List.getElem?_take,List.getElem?_take]
       split
       ·rename_i hj
        have:=ih j hj
        rw [if_pos (by omega)] at this
        exact this
       ·rfl
      have h1:=ha.at i a[i] (by simp [hi])
      have h2:=hb.at i (b[i]'(by omega)) (by simp)
      rw [e,h1] at h2
      rw [List.getElem?_eq_getElem hi,List.getElem?_eq_getElem (by omega)]
      exact h2.symm
     ·rw [if_neg hi,List.getElem?_eq_none (by omega)]
   have h2:=hb.at a.length (b[a.length]'hl) (by simp)
   rw [e,h] at h2
   cases h2
 exact Run.eq_of (gr_run n E) ha (Nat.le_antisymm (key ha h (gr_run n E)) (key (gr_run n E) (gr_stop n E) ha))
end Go.Abs

namespace Go.Abs
open Go.Proofs
theorem ord_eq {n:Int} {E:List Edge2} (h:wrongE n E=false):ord n E=if (gr n.toNat E).length < n.toNat then ([],12) else (gr n.toNat E,0):=by simp [ord,h,gr]
theorem ord_bad {n:Int} {E:List Edge2} (h:wrongE n E=true):ord n E=([],1):=by simp [ord,h]
end Go.Abs

namespace Go.Abs
open Go.Proofs
end Go.Abs

namespace Go.Abs
open Go.Proofs
def plcF:List Int → Int → Nat → Int
 | [],_,_=>-1
 | y :: r,x,i=>if y=x then (i:Int) else plcF r x (i + 1)
def plc (l:List Int) (x:Int):Int:=plcF l x 0
structure F5 (n:Nat) (A:List Edge2) (a b:Int) (σ:St):Prop where
 s0:σ.sl 0=.c (.v (.int .i64 n))
 s2:σ.sl 2=.c (.v (.int .i64 a))
 s3:σ.sl 3=.c (.v (.int .i64 b))
 s11:σ.sl 11=.c (.sl 1 8 (ic (ord n A).1))
 s12:σ.sl 12=.c (.v (.int .i64 (ord n A).2))
 s13:σ.sl 13=.c (.sl 1 8 (ic (ord n (A ++ [(a,b)])).1))
 s14:σ.sl 14=.c (.v (.int .i64 (ord n (A ++ [(a,b)])).2))
def KP5 (σ σ':St):Prop:=∀ s,s=0 ∨ s=2 ∨ s=3 ∨ s=11 ∨ s=12 ∨ s=13 ∨ s=14 → σ'.sl s=σ.sl s
theorem F5.kp {n:Nat} {A:List Edge2} {a b:Int} {σ σ':St} (h:F5 n A a b σ) (k:KP5 σ σ'):F5 n A a b σ':=
 ⟨by rw [k 0 (by simp)];exact h.s0,by rw [k 2 (by simp)];exact h.s2,by rw [k 3 (by simp)];exact h.s3,by rw [k 11 (by simp)];exact h.s11,by rw [k 12 (by simp)];exact h.s12,by rw [k 13 (by simp)];exact h.s13,by rw [k 14 (by simp)];exact h.s14⟩
end Go.Abs

namespace Go.Abs
open Go.Proofs
structure F3 (n:Nat) (E:List Edge2) (σ:St):Prop where
 s0:σ.sl 0=.c (.v (.int .i64 n))
 s1:σ.sl 1=.c (.sl 2 16 (ecs E))
 s5:σ.sl 5=.c (.sl 1 8 (ic (ord n E).1))
 s6:σ.sl 6=.c (.v (.int .i64 (ord n E).2))
def KP3 (σ σ':St):Prop:=∀ s,s=0 ∨ s=1 ∨ s=5 ∨ s=6 → σ'.sl s=σ.sl s
theorem F3.kp {n:Nat} {E:List Edge2} {σ σ':St} (h:F3 n E σ) (k:KP3 σ σ'):F3 n E σ':=
 ⟨by rw [k 0 (by simp)];exact h.s0,by rw [k 1 (by simp)];exact h.s1,by rw [k 5 (by simp)];exact h.s5,by rw [k 6 (by simp)];exact h.s6⟩
def atL (n:Nat) (l:List Int) (i:Nat):List Int:=(List.range n).map fun (k:Nat)=>if (k:Int) ∈ l.take i then plc l k else 0
def snL (n:Nat) (l:List Int) (i:Nat):List Bool:=(List.range n).map fun (k:Nat)=>decide ((k:Int) ∈ l.take i)
def bc (l:List Bool):List (List Cell):=l.map fun b=>[Cell.v (.bool b)]
@[simp] theorem atL_length (n:Nat) (l:List Int) (i:Nat):(atL n l i).length=n:=by simp [atL]
@[simp] theorem snL_length (n:Nat) (l:List Int) (i:Nat):(snL n l i).length=n:=by simp [snL]
@[simp] theorem atL_at (n:Nat) (l:List Int) (i k:Nat) (h:k < (atL n l i).length):(atL n l i)[k]=if (k:Int) ∈ l.take i then plc l k else 0:=by simp [atL]
@[simp] theorem snL_at (n:Nat) (l:List Int) (i k:Nat) (h:k < (snL n l i).length):(snL n l i)[k]=decide ((k:Int) ∈ l.take i):=by simp [snL]
@[simp] theorem bc_length (l:List Bool):(bc l).length=l.length:=by simp [bc]
@[simp] theorem bc_at (l:List Bool) (k:Nat) (h:k < (bc l).length):(bc l)[k]=[Cell.v (.bool (l[k]'(by simpa using h)))]:=by simp [bc]
def plL (n:Nat) (l:List Int):List Int:=(List.range n).map fun (k:Nat)=>plc l k
@[simp] theorem plL_length (n:Nat) (l:List Int):(plL n l).length=n:=by simp [plL]
@[simp] theorem plL_at (n:Nat) (l:List Int) (k:Nat) (h:k < (plL n l).length):(plL n l)[k]=plc l k:=by simp [plL]
structure H3 (n:Nat) (E:List Edge2) (l:List Int) (σ:St):Prop where
 s0:σ.sl 0=.c (.v (.int .i64 n))
 s1:σ.sl 1=.c (.sl 2 16 (ecs E))
 s5:σ.sl 5=.c (.sl 1 8 (ic l))
 s8:σ.sl 8=.c (.own 1003090 (σ.tg 1003090))
 o8:σ.ob 1003090=some (.mrow 3 1 8 (ic (plL n l)))
end Go.Abs

namespace Go.Abs
open Go.Proofs
end Go.Abs

namespace Go.Abs
open Go.Proofs
end Go.Abs

namespace Go.Abs
open Go.Proofs
theorem needsR_yes {l:List En} {xs:List Int} (hc:chkR l=0) (ha:xs.any (outE l.length)=false):needsR l xs=(needsL l xs,0):=by
 rw [needsR,if_neg (by simp [hc]),if_neg (by simp [ha])]
theorem Rch.mono {l:List En} {xs ys:List Int} (h:∀ x,x ∈ xs → Rch l ys x) {z:Int} (hz:Rch l xs z):Rch l ys z:=by
 induction hz with
 | base hx=>exact h _ hx
 | step _ h' ih=>exact .step ih h'
end Go.Abs

namespace Go.Abs
open Go.Proofs
theorem Rch.split {l:List En} {xs ys:List Int} {z:Int} (h:Rch l (xs ++ ys) z):Rch l xs z ∨ Rch l ys z:=by
 induction h with
 | base h=>exact (List.mem_append.1 h).imp .base .base
 | step _ h' ih=>exact ih.imp (fun h=>.step h h') (fun h=>.step h h')
end Go.Abs

namespace Go.Abs
open Go.Proofs
def btw (x a b:Int):Bool:=decide (a ≤ x) && decide (x ≤ b)
theorem fn1102 (x a b:Int):Fn Tryz.prog 102 [ib x,ib a,ib b] (bb (btw x a b)):=by
 refine fn_of (base:=1102000) ok1102 rfl fun σ h0 hr=>?_
 have s0:σ.sl 0=.c (.v (.int .i64 x)):=h0 0
 have s1:σ.sl 1=.c (.v (.int .i64 a)):=h0 1
 have s2:σ.sl 2=.c (.v (.int .i64 b)):=h0 2
 clear h0 hr
 unfold c1102
 by_cases h:a ≤ x <;> simp [s0,s1,s2,r1102,bb,btw,h]
theorem fn1068 (x a b:Int):Fn Tryz.prog 68 [ib x,ib a,ib b] (bb (btw x a b)):=by
 refine fn_of (base:=1068000) ok1068 rfl fun σ h0 hr=>?_
 have s0:σ.sl 0=.c (.v (.int .i64 x)):=h0 0
 have s1:σ.sl 1=.c (.v (.int .i64 a)):=h0 1
 have s2:σ.sl 2=.c (.v (.int .i64 b)):=h0 2
 clear h0 hr
 unfold c1068
 by_cases h:a ≤ x <;> simp [s0,s1,s2,r1068,bb,btw,h]
theorem none_eqb (t:T):T.eqb t (.mk 0 0 [])=t.none:=by
 obtain ⟨k,n,ts⟩:=t
 cases ts with
 | nil=>simp only [T.eqb,T.eqbL,T.none,T.kind,T.val,T.kids,List.isEmpty_nil,Bool.and_true];rw [Bool.eq_iff_iff];simp;exact ⟨fun h=>⟨decide_eq_true h.1,decide_eq_true h.2⟩,fun h=>⟨of_decide_eq_true h.1,of_decide_eq_true h.2⟩⟩
 | cons=>simp [T.eqb,T.eqbL,T.none,T.kind,T.val,T.kids]
theorem fn1070 (t:T):Fn Tryz.prog 70 [tm t] (bb t.none):=by
 refine fn_of (base:=1070000) ok1070 rfl fun σ h0 hr=>?_
 have s0:σ.sl 0=tm t:=h0 0
 simp only [tm,cells_eq t] at s0
 clear h0 hr
 unfold c1070
 simp [s0]
 refine ECall.fn (fn45 t (.mk 0 0 [])) (by simp [tm,cells_eq t,toD2,toD1,toD,T.cells,T.cellsL,cells_mk]) (by simp) rfl fun _=>?_
 simp [r1070,bb,none_eqb]
theorem fn1143 (t:T):Fn Tryz.prog 143 [tm t] (bb t.none):=by
 refine fn_of (base:=1143000) ok1143 rfl fun σ h0 hr=>?_
 have s0:σ.sl 0=tm t:=h0 0
 obtain ⟨k,n,ts⟩:=t
 simp only [tm,cells_mk] at s0
 clear h0 hr
 unfold c1143
 by_cases c1:k=0
 ·by_cases c2:n=0
  ·cases ts <;> simp [s0,c1,c2,r1143,bb,T.none,T.kind,T.val,T.kids]
   omega
  ·simp [s0,c1,c2,r1143,bb,T.none,T.kind,T.val,T.kids]
 ·simp [s0,c1,r1143,bb,T.none,T.kind,T.val,T.kids]
theorem fn1142 (t:T) (v:Int) (hc:t.count ≤ 1048576):Fn Tryz.prog 142 [tm t,ib v] (bb (t.inn v)):=by
 refine fn_of (base:=1142000) ok1142 rfl fun σ h0 hr=>?_
 have s0:σ.sl 0=tm t:=h0 0
 have s1:σ.sl 1=.c (.v (.int .i64 v)):=h0 1
 simp only [tm,cells_eq t] at s0
 clear h0 hr
 unfold c1142
 simp [s0,s1]
 refine ECall.fn (fn58 t v 65536) (by simp [tm,ib,cells_eq t]) (by simp) rfl fun _=>?_
 simp [r1142,bb,T.inn,scope_rscope hc]
theorem fn1109 (b:B):Fn Tryz.prog 109 [bm b] (ib b.sorts.length):=by
 refine fn_of (base:=1109000) ok1109 rfl fun σ h0 hr=>?_
 have s0:σ.sl 0=bm b:=h0 0
 simp only [bm,B.cells] at s0
 clear h0 hr
 unfold c1109
 simp [s0,r1109,ib]
theorem fn1110 (b:B) (k:Nat):Fn Tryz.prog 110 [bm b,ib k] (ib (decs b.sorts k)):=by
 refine fn_of (base:=1110000) ok1110 rfl fun σ h0 hr=>?_
 have s0:σ.sl 0=bm b:=h0 0
 have s1:σ.sl 1=.c (.v (.int .i64 k)):=h0 1
 have hl1:=real_b1 (hr (bm b) (by simp))
 simp only [bm,B.cells] at s0
 clear h0 hr
 unfold c1110
 simp [s0,s1,-W_block]
 rw [W_block]
 refine W_loop (fun m σ=>∃ i:Nat,i + m=b.sorts.length ∧ i ≤ k ∧ σ.sl 1=.c (.v (.int .i64 k)) ∧ σ.sl 2=.c (.ref 1110002 (σ.tg 1110002) 0) ∧ σ.ob 1110002=some (.box 68 b.cells) ∧ σ.sl 5=.c (.v (.int .i64 (decs b.sorts i))) ∧ σ.sl 6=.c (.v (.int .i64 i))) b.sorts.length ?_ ?_
 ·exact ⟨0,by simp,by omega,by simp [s1],by simp,by simp [B.cells],by simp [decs],by simp⟩
 clear s0 s1 σ
 rintro m σ ⟨i,hm,hik,s1,s2,o2,s5,s6⟩
 simp only [B.cells] at o2
 unfold c1110b0
 by_cases hi:i < b.sorts.length
 ·by_cases hk:i < k
  ·have w1:=wrap_succ (i:=i) (by omega)
   obtain ⟨s,hs⟩:=at_of (ts:=b.sorts) (i:=i) (by omega)
   obtain ⟨hil,hs2⟩:=getE hs
   have hle:=decs_le b.sorts i
   have w2:=wrap_succ (i:=decs b.sorts i) (by omega)
   have hnx:decs b.sorts (i + 1)=decs b.sorts i + if s.dec then 1 else 0:=by
    rw [decs,List.take_add_one,hs,List.countP_append];simp [decs]
   cases hd:s.dec with
   | true=>
    rw [hd] at hnx
    simp [s1,s2,o2,s5,s6,hi,hk,hs2,S.cells,hd,w1,w2]
    exact ⟨m - 1,by omega,i + 1,by omega,by omega,rfl,by simp [hnx],by simp⟩
   | false=>
    rw [hd] at hnx
    simp [s1,s2,o2,s5,s6,hi,hk,hs2,S.cells,hd,w1,w2]
    exact ⟨m - 1,by omega,i + 1,by omega,by omega,rfl,by simp [hnx],by simp⟩
  ·have:i=k:=by omega
   subst this
   simp [s1,s2,o2,s5,s6,hi,r1110,ib]
 ·have:i=b.sorts.length:=by omega
  subst this
  have he:decs b.sorts b.sorts.length=decs b.sorts k:=by
   unfold decs
   rw [List.take_of_length_le (Nat.le_refl _),List.take_of_length_le (by omega)]
  by_cases hk:b.sorts.length < k
  ·simp [s1,s2,o2,s5,s6,hk,r1110,ib,he]
  ·simp [s1,s2,o2,s5,s6,hk,r1110,ib,he]
theorem fn1073 (b:B):Fn Tryz.prog 73 [bm b] (ib b.count):=by
 refine fn_of (base:=1073000) ok1073 rfl fun σ h0 hr=>?_
 have s0:σ.sl 0=bm b:=h0 0
 have hl1:=real_b1 (hr (bm b) (by simp))
 have hl2:=real_b2 (hr (bm b) (by simp))
 simp only [bm,B.cells] at s0
 clear h0 hr
 unfold c1073
 have hle:=decs_le b.sorts b.sorts.length
 have w1:IntKind.wrap .i64 (2 * (b.sorts.length:Int))=2 * (b.sorts.length:Int):=wrap_id (by omega) (by omega)
 have w2:IntKind.wrap .i64 (2 * (b.sorts.length:Int) + (decs b.sorts b.sorts.length:Nat))=2 * (b.sorts.length:Int) + (decs b.sorts b.sorts.length:Nat):=wrap_id (by omega) (by omega)
 have w3:IntKind.wrap .i64 (2 * (b.sorts.length:Int) + (decs b.sorts b.sorts.length:Nat) + (b.cons.length:Nat))=((b.count:Nat):Int):=by rw [wrap_id (by omega) (by omega)];simp [B.count]
 simp [s0]
 refine W_dregA ?_
 simp [s0]
 refine CallA.fn (fn1109 b) (by simp [bm,B.cells]) (by simp) rfl ?_
 simp [s0,ib,w1]
 refine CallA.fn (fn1109 b) (by simp [bm,B.cells]) (by simp) rfl ?_
 simp [s0,ib,w1]
 refine CallA.fn (fn1110 b b.sorts.length) (by simp [bm,B.cells,ib]) (by simp) rfl ?_
 simp [s0,ib,w1,w2,w3]
 refine realC_n ?_
 simp [r1073,ib]
theorem fn1074 (b:B) (base k:Int):Fn Tryz.prog 74 [bm b,ib base,ib k] (ib (b.former base k)):=by
 refine fn_of (base:=1074000) ok1074 rfl fun σ h0 hr=>?_
 have s0:σ.sl 0=bm b:=h0 0
 have s1:σ.sl 1=.c (.v (.int .i64 base)):=h0 1
 have s2:σ.sl 2=.c (.v (.int .i64 k)):=h0 2
 have hl1:=real_b1 (hr (bm b) (by simp))
 simp only [bm,B.cells] at s0
 clear h0 hr
 have w0:IntKind.wrap .i64 ((b.sorts.length:Int) - 1)=(b.sorts.length:Int) - 1:=wrap_id (by omega) (by omega)
 unfold c1074
 simp [s0,s1,s2]
 refine ECall.fn (fn1102 base 0 65535) (by simp [ib]) (by simp) rfl fun _=>?_
 by_cases c1:0 ≤ base ∧ base ≤ 65535
 ·simp [bb,btw,c1,s0,s1,s2]
  refine GCall.fn (fun _=>fn1109 b) (by simp [bm,B.cells]) (by simp) rfl fun _=>?_
  simp [ib,w0,s1,s2]
  refine GCall.fn (fun _=>fn1102 k 0 ((b.sorts.length:Int) - 1)) (by simp [ib]) (by simp) rfl fun _=>?_
  by_cases c2:0 ≤ k ∧ k ≤ (b.sorts.length:Int) - 1
  ·have w1:IntKind.wrap .i64 (base + k)=base + k:=wrap_id (by omega) (by omega)
   have e:b.former base k=base + k:=by simp only [B.former,plcv];rw [if_neg (by omega)];omega
   simp [bb,btw,c2,w1,s1,s2,r1074,ib,e]
  ·have e:b.former base k=-1:=by simp only [B.former,plcv];rw [if_pos (by omega)]
   have hb:(decide (0 ≤ k) && decide (k ≤ (b.sorts.length:Int) - 1))=false:=by simp;omega
   simp [bb,btw,hb,r1074,ib,e]
 ·have e:b.former base k=-1:=by simp only [B.former,plcv];rw [if_pos (by omega)]
  have hb:(decide (0 ≤ base) && decide (base ≤ 65535))=false:=by simp;omega
  simp [bb,btw,hb,s0,s1,s2]
  refine GCall.fn (fun _=>fn1109 b) (by simp [bm,B.cells]) (by simp) rfl fun _=>?_
  simp [ib,w0,s1,s2]
  refine GCall.fn (fun _=>fn1102 k 0 ((b.sorts.length:Int) - 1)) (by simp [ib]) (by simp) rfl fun _=>?_
  simp [bb,r1074,ib,e]
theorem fn1076 (b:B) (base k:Int):Fn Tryz.prog 76 [bm b,ib base,ib k] (ib (b.constr base k)):=by
 refine fn_of (base:=1076000) ok1076 rfl fun σ h0 hr=>?_
 have s0:σ.sl 0=bm b:=h0 0
 have s1:σ.sl 1=.c (.v (.int .i64 base)):=h0 1
 have s2:σ.sl 2=.c (.v (.int .i64 k)):=h0 2
 have hl1:=real_b1 (hr (bm b) (by simp))
 have hl2:=real_b2 (hr (bm b) (by simp))
 have hle:=decs_le b.sorts b.sorts.length
 simp only [bm,B.cells] at s0
 clear h0 hr
 have w0:IntKind.wrap .i64 ((b.cons.length:Int) - 1)=(b.cons.length:Int) - 1:=wrap_id (by omega) (by omega)
 unfold c1076
 simp [s0,s1,s2]
 refine ECall.fn (fn1102 base 0 65535) (by simp [ib]) (by simp) rfl fun _=>?_
 by_cases c1:0 ≤ base ∧ base ≤ 65535
 ·simp [bb,btw,c1,s0,s1,s2,w0]
  refine GCall.fn (fun _=>fn1102 k 0 ((b.cons.length:Int) - 1)) (by simp [ib]) (by simp) rfl fun _=>?_
  by_cases c2:0 ≤ k ∧ k ≤ (b.cons.length:Int) - 1
  case neg=>
   have e:b.constr base k=-1:=by simp only [B.constr,plcv];rw [if_pos (by omega)]
   have hb:(decide (0 ≤ k) && decide (k ≤ (b.cons.length:Int) - 1))=false:=by simp;omega
   simp [bb,btw,hb,r1076,ib,e]
  have w1:IntKind.wrap .i64 (base + (b.sorts.length:Int))=base + (b.sorts.length:Int):=wrap_id (by omega) (by omega)
  have w2:IntKind.wrap .i64 (base + (b.sorts.length:Int) + (decs b.sorts b.sorts.length:Nat))=base + (b.sorts.length:Int) + (decs b.sorts b.sorts.length:Nat):=wrap_id (by omega) (by omega)
  have w3:IntKind.wrap .i64 (base + (b.sorts.length:Int) + (decs b.sorts b.sorts.length:Nat) + k)=base + (b.sorts.length:Int) + (decs b.sorts b.sorts.length:Nat) + k:=wrap_id (by omega) (by omega)
  have e:b.constr base k=base + (b.sorts.length:Int) + (decs b.sorts b.sorts.length:Nat) + k:=by simp only [B.constr,plcv];rw [if_neg (by omega)];omega
  simp [bb,btw,c2,s1,s2]
  refine W_dregA ?_
  simp [s0,s1,s2]
  refine CallA.fn (fn1109 b) (by simp [bm,B.cells]) (by simp) rfl ?_
  simp [s0,s1,s2,ib,w1]
  refine CallA.fn (fn1109 b) (by simp [bm,B.cells]) (by simp) rfl ?_
  simp [s0,s1,s2,ib,w1]
  refine CallA.fn (fn1110 b b.sorts.length) (by simp [bm,B.cells,ib]) (by simp) rfl ?_
  simp [s0,s1,s2,ib,w1,w2,w3]
  refine realC_n ?_
  simp [r1076,ib,e]
 ·have e:b.constr base k=-1:=by simp only [B.constr,plcv];rw [if_pos (by omega)]
  have hb:(decide (0 ≤ base) && decide (base ≤ 65535))=false:=by simp;omega
  simp [bb,btw,hb,s0,s1,s2,w0]
  refine GCall.fn (fun _=>fn1102 k 0 ((b.cons.length:Int) - 1)) (by simp [ib]) (by simp) rfl fun _=>?_
  simp [bb,r1076,ib,e]
theorem fn1077 (b:B) (base k:Int):Fn Tryz.prog 77 [bm b,ib base,ib k] (ib (b.elimn base k)):=by
 refine fn_of (base:=1077000) ok1077 rfl fun σ h0 hr=>?_
 have s0:σ.sl 0=bm b:=h0 0
 have s1:σ.sl 1=.c (.v (.int .i64 base)):=h0 1
 have s2:σ.sl 2=.c (.v (.int .i64 k)):=h0 2
 have hl1:=real_b1 (hr (bm b) (by simp))
 have hl2:=real_b2 (hr (bm b) (by simp))
 have hle:=decs_le b.sorts b.sorts.length
 simp only [bm,B.cells] at s0
 clear h0 hr
 have w0:IntKind.wrap .i64 ((b.sorts.length:Int) - 1)=(b.sorts.length:Int) - 1:=wrap_id (by omega) (by omega)
 unfold c1077
 simp [s0,s1,s2]
 refine ECall.fn (fn1102 base 0 65535) (by simp [ib]) (by simp) rfl fun _=>?_
 by_cases c1:0 ≤ base ∧ base ≤ 65535
 ·simp [bb,btw,c1,s0,s1,s2,w0]
  refine GCall.fn (fun _=>fn1109 b) (by simp [bm,B.cells]) (by simp) rfl fun _=>?_
  simp [ib,w0,s1,s2]
  refine GCall.fn (fun _=>fn1102 k 0 ((b.sorts.length:Int) - 1)) (by simp [ib]) (by simp) rfl fun _=>?_
  by_cases c2:0 ≤ k ∧ k ≤ (b.sorts.length:Int) - 1
  case neg=>
   have e:b.elimn base k=-1:=by simp only [B.elimn,plcv];rw [if_pos (by omega)]
   have hb:(decide (0 ≤ k) && decide (k ≤ (b.sorts.length:Int) - 1))=false:=by simp;omega
   simp [bb,btw,hb,r1077,ib,e]
  have w1:IntKind.wrap .i64 (base + (b.sorts.length:Int))=base + (b.sorts.length:Int):=wrap_id (by omega) (by omega)
  have w2:IntKind.wrap .i64 (base + (b.sorts.length:Int) + (decs b.sorts b.sorts.length:Nat))=base + (b.sorts.length:Int) + (decs b.sorts b.sorts.length:Nat):=wrap_id (by omega) (by omega)
  have w3:IntKind.wrap .i64 (base + (b.sorts.length:Int) + (decs b.sorts b.sorts.length:Nat) + (b.cons.length:Nat))=base + (b.sorts.length:Int) + (decs b.sorts b.sorts.length:Nat) + (b.cons.length:Nat):=wrap_id (by omega) (by omega)
  have w4:IntKind.wrap .i64 (base + (b.sorts.length:Int) + (decs b.sorts b.sorts.length:Nat) + (b.cons.length:Nat) + k)=base + (b.sorts.length:Int) + (decs b.sorts b.sorts.length:Nat) + (b.cons.length:Nat) + k:=wrap_id (by omega) (by omega)
  have e:b.elimn base k=base + (b.sorts.length:Int) + (decs b.sorts b.sorts.length:Nat) + (b.cons.length:Nat) + k:=by simp only [B.elimn,plcv];rw [if_neg (by omega)];omega
  simp [bb,btw,c2,s1,s2]
  refine W_dregA ?_
  simp [s0,s1,s2]
  refine CallA.fn (fn1109 b) (by simp [bm,B.cells]) (by simp) rfl ?_
  simp [s0,s1,s2,ib,w1]
  refine CallA.fn (fn1109 b) (by simp [bm,B.cells]) (by simp) rfl ?_
  simp [s0,s1,s2,ib,w1]
  refine CallA.fn (fn1110 b b.sorts.length) (by simp [bm,B.cells,ib]) (by simp) rfl ?_
  simp [s0,s1,s2,ib,w1,w2,w3,w4]
  refine realC_n ?_
  simp [r1077,ib,e]
 ·have e:b.elimn base k=-1:=by simp only [B.elimn,plcv];rw [if_pos (by omega)]
  have hb:(decide (0 ≤ base) && decide (base ≤ 65535))=false:=by simp;omega
  simp [bb,btw,hb,s0,s1,s2,w0]
  refine GCall.fn (fun _=>fn1109 b) (by simp [bm,B.cells]) (by simp) rfl fun _=>?_
  simp [ib,w0,s1,s2]
  refine GCall.fn (fun _=>fn1102 k 0 ((b.sorts.length:Int) - 1)) (by simp [ib]) (by simp) rfl fun _=>?_
  simp [bb,r1077,ib,e]
end Go.Abs

namespace Go.Abs
open Go.Proofs
theorem fn1075 (b:B) (base k:Int):Fn Tryz.prog 75 [bm b,ib base,ib k] (ib (b.decoder base k)):=by
 refine fn_of (base:=1075000) ok1075 rfl fun σ h0 hr=>?_
 have s0:σ.sl 0=bm b:=h0 0
 have s1:σ.sl 1=.c (.v (.int .i64 base)):=h0 1
 have s2:σ.sl 2=.c (.v (.int .i64 k)):=h0 2
 have hl1:=real_b1 (hr (bm b) (by simp))
 simp only [bm,B.cells] at s0
 clear h0 hr
 have w0:IntKind.wrap .i64 ((b.sorts.length:Int) - 1)=(b.sorts.length:Int) - 1:=wrap_id (by omega) (by omega)
 unfold c1075
 simp [s0,s1,s2]
 refine ECall.fn (fn1102 base 0 65535) (by simp [ib]) (by simp) rfl fun _=>?_
 by_cases c1:0 ≤ base ∧ base ≤ 65535
 ·simp [bb,btw,c1,s0,s1,s2,w0]
  refine GCall.fn (fun _=>fn1109 b) (by simp [bm,B.cells]) (by simp) rfl fun _=>?_
  simp [ib,w0,s1,s2]
  refine GCall.fn (fun _=>fn1102 k 0 ((b.sorts.length:Int) - 1)) (by simp [ib]) (by simp) rfl fun _=>?_
  by_cases c2:0 ≤ k ∧ k ≤ (b.sorts.length:Int) - 1
  case neg=>
   have e:b.decoder base k=-1:=by simp only [B.decoder];rw [if_pos (by omega)]
   have hb:(decide (0 ≤ k) && decide (k ≤ (b.sorts.length:Int) - 1))=false:=by simp;omega
   cases hx:b.sorts[k.toNat]? with
   | none=>simp [bb,btw,hb,hx,s1,s2,r1075,ib,e]
   | some s=>simp [bb,btw,hb,hx,s1,s2,S.cells,r1075,ib,e]
  obtain ⟨s,hs⟩:=at_of (ts:=b.sorts) (i:=k.toNat) (by omega)
  obtain ⟨hil,hs2⟩:=getE hs
  have hk0:(k.toNat:Int)=k:=by omega
  have hle:=decs_le b.sorts k.toNat
  cases hd:s.dec with
  | false=>
   have e:b.decoder base k=-1:=by simp only [B.decoder];rw [if_pos (.inr (.inr (by simp [decAt,hs,hd])))]
   simp [bb,btw,c2,hs,s1,s2,S.cells,hd,r1075,ib,e]
   omega
  | true=>
   have w1:IntKind.wrap .i64 (base + (b.sorts.length:Int))=base + (b.sorts.length:Int):=wrap_id (by omega) (by omega)
   have w2:IntKind.wrap .i64 (base + (b.sorts.length:Int) + (decs b.sorts k.toNat:Nat))=base + (b.sorts.length:Int) + (decs b.sorts k.toNat:Nat):=wrap_id (by omega) (by omega)
   have e:b.decoder base k=plcv base b.sorts.length (decs b.sorts k.toNat) b.sorts.length:=by simp only [B.decoder];rw [if_neg (by simp [decAt,hs,hd];omega)]
   have hlt:decs b.sorts k.toNat < b.sorts.length:=by
    have h1:decs b.sorts k.toNat ≤ k.toNat:=Nat.le_trans List.countP_le_length (by simp;omega)
    omega
   have e2:b.decoder base k=base + (b.sorts.length:Int) + (decs b.sorts k.toNat:Nat):=by rw [e];simp only [plcv];rw [if_neg (by omega)]
   have hcall:=fn1110 b k.toNat
   rw [hk0] at hcall
   simp [bb,btw,c2,hs,s1,s2,S.cells,hd]
   refine ⟨by omega,?_⟩
   refine W_dregA ?_
   simp [s0,s1,s2]
   refine CallA.fn (fn1109 b) (by simp [bm,B.cells]) (by simp) rfl ?_
   simp [s0,s1,s2,ib,w1]
   refine CallA.fn hcall (by simp [bm,B.cells,ib]) (by simp) rfl ?_
   simp [s0,s1,s2,ib,w1,w2]
   refine realC_n ?_
   simp [r1075,ib,e2]
 ·have e:b.decoder base k=-1:=by
   simp only [B.decoder,plcv]
   split
   ·rfl
   ·rw [if_pos (by omega)]
  have hb:(decide (0 ≤ base) && decide (base ≤ 65535))=false:=by simp;omega
  simp [bb,btw,hb,s0,s1,s2,w0]
  refine GCall.fn (fun _=>fn1109 b) (by simp [bm,B.cells]) (by simp) rfl fun _=>?_
  simp [ib,w0,s1,s2]
  refine GCall.fn (fun _=>fn1102 k 0 ((b.sorts.length:Int) - 1)) (by simp [ib]) (by simp) rfl fun _=>?_
  cases hx:b.sorts[k.toNat]? with
  | none=>simp [bb,hx,s1,s2,r1075,ib,e]
  | some s=>simp [bb,hx,s1,s2,S.cells,r1075,ib,e]
structure FA2 (b:B) (a:A) (i:Nat) (σ:St):Prop where
 s3:σ.sl 3=.c (.ref 1141003 (σ.tg 1141003) 0)
 o3:σ.ob 1141003=some (.box 68 b.cells)
 s4:σ.sl 4=.c (.ref 1141004 (σ.tg 1141004) 0)
 o4:σ.ob 1141004=some (.box 126 a.cells)
 s2:σ.sl 2=.c (.v (.int .i64 i))
def J1141a (b:B) (a:A) (i m:Nat) (σ:St):Prop:=∃ j:Nat,j + m=a.dom.length ∧ domIn (a.dom.drop j) (i + j)=domIn a.dom i ∧ FA2 b a i σ ∧ σ.sl 7=.c (.v (.int .i64 j))
theorem loop1141a {σ:St} {Q:SEx → St → Prop} (b:B) (a:A) (i:Nat) (hi:i ≤ 1000) (hd:a.dom.length ≤ 12) (ho:∀ t,t ∈ a.dom → t.ok) (H:FA2 b a i σ) (s7:σ.sl 7=.c (.v (.int .i64 (0:Nat))))
  (hR:∀ σ',domIn a.dom i=false → σ'.sl 6=bb false → Q .ret σ') (hQ:∀ σ',domIn a.dom i=true → FA2 b a i σ' → Q .normal σ'):W Tryz.prog 1141000 (.loop c1141b0) σ (onBlock 0 Q):=by
 refine W_loop (J1141a b a i) a.dom.length ⟨0,by simp,by simp,H,s7⟩ ?_
 clear H s7 σ
 rintro m σ ⟨j,hm,hp,⟨s3,o3,s4,o4,s2⟩,s7⟩
 simp only [A.cells] at o4
 unfold c1141b0
 by_cases hj:j < a.dom.length
 ·have w1:=wrap_succ (i:=j) (by omega)
  have w2:IntKind.wrap .i64 ((i:Int) + j)=((i + j:Nat):Int):=by rw [wrap_id (by omega) (by omega)];omega
  obtain ⟨d,hd1⟩:=at_of hj
  obtain ⟨_,hd2⟩:=getE hd1
  rw [drop_at hd1,domIn] at hp
  simp [s2,s4,o4,s7,hj,hd2,w2,cells_eq,-Int.natCast_add]
  refine ECall.fn (fn1142 d ((i + j:Nat):Int) (ho d (List.mem_of_getElem? hd1)).1) (by simp [tm,ib,cells_eq]) (by simp) rfl fun _=>?_
  cases hin:d.inn ((i + j:Nat):Int) with
  | false=>
   rw [hin] at hp
   simp [bb]
   exact hR _ (by simpa using hp.symm) (by simp [bb])
  | true=>
   rw [hin] at hp
   simp [bb,s7,w1]
   exact ⟨m - 1,by omega,j + 1,by omega,by rw [← Nat.add_assoc];simpa using hp,⟨by simp [s3],by simp [o3],by simp [s4],by simp [o4,A.cells],by simp [s2]⟩,by simp⟩
 ·have:j=a.dom.length:=by omega
  subst this
  simp [domIn] at hp
  simp [s4,o4,s7]
  exact hQ _ hp ⟨by simp [s3],by simp [o3],by simp [s4],by simp [o4,A.cells],by simp [s2]⟩
def J1141b (b:B) (a:A) (i m:Nat) (σ:St):Prop:=∃ j:Nat,j + m=a.idx.length ∧ allIn (a.idx.drop j) ((i + a.dom.length:Nat):Int)=allIn a.idx ((i + a.dom.length:Nat):Int) ∧ FA2 b a i σ ∧ σ.sl 8=.c (.v (.int .i64 j))
theorem loop1141b {σ:St} {Q:SEx → St → Prop} (b:B) (a:A) (i:Nat) (hi:i ≤ 1000) (hd:a.dom.length ≤ 12) (hx:a.idx.length ≤ 1000000000000000) (ho:∀ t,t ∈ a.idx → t.ok) (H:FA2 b a i σ) (s8:σ.sl 8=.c (.v (.int .i64 (0:Nat))))
  (hR:∀ σ',allIn a.idx ((i + a.dom.length:Nat):Int)=false → σ'.sl 6=bb false → Q .ret σ') (hQ:∀ σ',allIn a.idx ((i + a.dom.length:Nat):Int)=true → Q .normal σ'):W Tryz.prog 1141000 (.loop c1141b1) σ (onBlock 2 Q):=by
 refine W_loop (J1141b b a i) a.idx.length ⟨0,by simp,by simp,H,s8⟩ ?_
 clear H s8 σ
 rintro m σ ⟨j,hm,hp,⟨s3,o3,s4,o4,s2⟩,s8⟩
 simp only [A.cells] at o4
 unfold c1141b1
 by_cases hj:j < a.idx.length
 ·have w1:=wrap_succ (i:=j) (by omega)
  have w2:IntKind.wrap .i64 ((i:Int) + a.dom.length)=((i + a.dom.length:Nat):Int):=by rw [wrap_id (by omega) (by omega)];omega
  obtain ⟨d,hd1⟩:=at_of hj
  obtain ⟨_,hd2⟩:=getE hd1
  rw [drop_at hd1,allIn,List.all_cons,← allIn] at hp
  simp [s2,s4,o4,s8,hj]
  refine W_dregA ?_
  simp [s2,s4,o4,s8,hj,hd2,w2,cells_eq,-Int.natCast_add]
  refine CallA.fn (fn1142 d ((i + a.dom.length:Nat):Int) (ho d (List.mem_of_getElem? hd1)).1) (by simp [tm,ib,cells_eq]) (by simp) rfl ?_
  cases hin:d.inn ((i + a.dom.length:Nat):Int) with
  | false=>
   rw [hin] at hp
   simp [bb]
   refine realC_n ?_
   simp
   exact hR _ (by simpa using hp.symm) (by simp [bb])
  | true=>
   rw [hin] at hp
   simp [bb]
   refine realC_n ?_
   simp [s8,w1]
   exact ⟨m - 1,by omega,j + 1,by omega,by simpa using hp,⟨by simp [s3],by simp [o3],by simp [s4],by simp [o4,A.cells],by simp [s2]⟩,by simp⟩
 ·have:j=a.idx.length:=by omega
  subst this
  simp [allIn] at hp
  simp [s4,o4,s8]
  exact hQ _ (by simpa [allIn] using hp)
theorem fn1141 (b:B) (a:A) (i:Nat) (hi:i ≤ 1000) (hO:a.Ok):Fn Tryz.prog 141 [bm b,am a,ib i] (bb (a.right b i)):=by
 refine fn_of (base:=1141000) ok1141 rfl fun σ h0 hr=>?_
 have s0:σ.sl 0=bm b:=h0 0
 have s1:σ.sl 1=am a:=h0 1
 have s2:σ.sl 2=.c (.v (.int .i64 i)):=h0 2
 have hl1:=real_b1 (hr (bm b) (by simp))
 obtain ⟨ha1,ha2⟩:=real_am (hr (am a) (by simp))
 simp only [bm,B.cells] at s0
 simp only [am,A.cells] at s1
 clear h0 hr
 have w0:IntKind.wrap .i64 ((a.dom.length:Int) + a.idx.length)=(a.dom.length:Int) + a.idx.length:=wrap_id (by omega) (by omega)
 have w9:IntKind.wrap .i64 ((b.sorts.length:Int) - 1)=(b.sorts.length:Int) - 1:=wrap_id (by omega) (by omega)
 unfold c1141
 cases hrc:a.rc with
 | false=>
  simp [s0,s1,s2,hrc]
  refine ECall.fn (fn1142 a.typ i hO.typ.1) (by simp [tm,ib,cells_eq]) (by simp) rfl fun _=>?_
  cases hin:a.typ.inn i with
  | false=>simp [bb,r1141,A.right,hrc,hin,w0]
  | true=>
   by_cases h1:a.dom.length + a.idx.length=0
   ·have h1':(a.dom.length:Int) + a.idx.length=0:=by omega
    simp [bb,r1141,A.right,hrc,hin,w0,h1,h1',show IntKind.wrap .i64 (0:Int)=0 by decide]
   ·have h1':¬ (a.dom.length:Int) + a.idx.length=0:=by omega
    simp [bb,r1141,A.right,hrc,hin,w0,h1,h1']
    intro e1 e2
    simp [e1,e2] at h1
 | true=>
  have fin:badRec b a=true → A.right b a i=false:=fun h=>by simp [A.right,hrc,h]
  simp [s0,s1,s2,hrc]
  refine W_dregA ?_
  simp [s0,s1,s2,hrc]
  refine CallA.fn (fn1143 a.typ) (by simp [tm,cells_eq]) (by simp) rfl ?_
  cases hx:b.sorts[a.sort.toNat]? with
  | none=>
   have hbad:badRec b a=true:=by
    have:=List.getElem?_eq_none_iff.1 hx
    simp only [badRec,Bool.or_eq_true,decide_eq_true_eq]
    by_cases c3:a.sort < 0
    ·exact .inl (.inl (.inr c3))
    ·exact .inl (.inr (by omega))
   have hb:btw a.sort 0 ((b.sorts.length:Int) - 1)=false:=by
    have:=List.getElem?_eq_none_iff.1 hx
    simp [btw];omega
   cases hN:a.typ.none with
   | false=>
    simp [s0,s1,s2,hrc,bb,hx,hN,w9]
    refine GCallA.fn (fun _=>fn1102 a.sort 0 ((b.sorts.length:Int) - 1)) (by simp [ib]) (by simp) rfl ?_
    simp [bb,hx,hb]
    refine realC_n ?_
    simp [r1141,fin hbad,bb]
   | true=>
    by_cases c2:12 < a.dom.length
    ·have c2':(12:Int) < a.dom.length:=by omega
     simp [s0,s1,s2,hrc,bb,hx,hN,c2,c2',w9]
     refine GCallA.fn (fun _=>fn1102 a.sort 0 ((b.sorts.length:Int) - 1)) (by simp [ib]) (by simp) rfl ?_
     simp [bb,hx,hb]
     refine realC_n ?_
     simp [r1141,fin hbad,bb]
    ·have c2':¬ (12:Int) < a.dom.length:=by omega
     simp [s0,s1,s2,hrc,bb,hx,hN,c2,c2',w9]
     refine GCallA.fn (fun _=>fn1102 a.sort 0 ((b.sorts.length:Int) - 1)) (by simp [ib]) (by simp) rfl ?_
     simp [bb,hx,hb]
     refine realC_n ?_
     simp [r1141,fin hbad,bb]
  | some s=>
   have hsx:sIdx b a.sort=s.idx:=by simp [sIdx,hx]
   have hlt:a.sort.toNat < b.sorts.length:=(List.getElem?_eq_some_iff.1 hx).1
   cases hN:a.typ.none with
   | false=>
    simp [s0,s1,s2,hrc,bb,hx,hN,S.cells,w9]
    refine GCallA.fn (fun _=>fn1102 a.sort 0 ((b.sorts.length:Int) - 1)) (by simp [ib]) (by simp) rfl ?_
    simp [bb,hx,S.cells]
    refine realC_n ?_
    simp [r1141,fin (by simp [badRec,hN]),bb]
   | true=>
    by_cases c2:12 < a.dom.length
    ·have c2':(12:Int) < a.dom.length:=by omega
     simp [s0,s1,s2,hrc,bb,hx,hN,c2,c2',S.cells,w9]
     refine GCallA.fn (fun _=>fn1102 a.sort 0 ((b.sorts.length:Int) - 1)) (by simp [ib]) (by simp) rfl ?_
     simp [bb,hx,S.cells]
     refine realC_n ?_
     simp [r1141,fin (by simp [badRec,hN,c2]),bb]
    ·have c2':¬ (12:Int) < a.dom.length:=by omega
     simp [s0,s1,s2,hrc,bb,hx,hN,c2,c2',S.cells,w9]
     refine GCallA.fn (fun _=>fn1102 a.sort 0 ((b.sorts.length:Int) - 1)) (by simp [ib]) (by simp) rfl ?_
     by_cases c3:a.sort < 0
     ·have hb:btw a.sort 0 ((b.sorts.length:Int) - 1)=false:=by simp [btw];omega
      simp [bb,hx,hb,S.cells]
      refine realC_n ?_
      simp [r1141,fin (by simp [badRec,hN,c2,c3]),bb]
     ·have hb:btw a.sort 0 ((b.sorts.length:Int) - 1)=true:=by simp [btw];omega
      by_cases c5:a.idx.length=s.idx.length
      ·have c5':(a.idx.length:Int)=s.idx.length:=by omega
       have hnb:badRec b a=false:=by simp [badRec,hN,hsx,c5];omega
       simp [bb,hx,hb,S.cells,c5,c5']
       refine ⟨by omega,realC_n ?_⟩
       simp
       refine loop1141a b a i hi (by omega) hO.dom ⟨by simp,by simp [B.cells],by simp,by simp [A.cells,hrc],by simp [s2]⟩ (by simp) (fun σ' e q6=>?_) fun σ' e H=>?_
       ·simp [q6,r1141,bb,A.right,hrc,hnb,e]
       obtain ⟨s3,o3,s4,o4,q2⟩:=H
       simp
       refine loop1141b b a i hi (by omega) (by omega) hO.idx ⟨by simp [s3],by simp [o3],by simp [s4],by simp [o4],by simp [q2]⟩ (by simp) (fun σ' e2 q6=>?_) fun σ' e2=>?_
       ·simp [q6,r1141,bb,A.right,hrc,hnb,e,e2,-Int.natCast_add]
       ·simp [r1141,bb,A.right,hrc,hnb,e,e2,-Int.natCast_add]
      ·have c5':¬ (a.idx.length:Int)=s.idx.length:=by omega
       simp [bb,hx,hb,S.cells,c5,c5']
       refine ⟨by omega,realC_n ?_⟩
       simp [r1141,fin (by simp [badRec,hN,hsx,c5]),bb]
end Go.Abs

namespace Go.Abs
open Go.Proofs
structure FK2 (b:B) (c:K) (σ:St):Prop where
 s2:σ.sl 2=.c (.ref 1144002 (σ.tg 1144002) 0)
 o2:σ.ob 1144002=some (.box 68 b.cells)
 s3:σ.sl 3=.c (.ref 1144003 (σ.tg 1144003) 0)
 o3:σ.ob 1144003=some (.box 106 c.cells)
def J1144a (b:B) (c:K) (m:Nat) (σ:St):Prop:=∃ j:Nat,j + m=c.args.length ∧ rowA b (c.args.drop j) j=rowA b c.args 0 ∧ FK2 b c σ ∧ σ.sl 5=.c (.v (.int .i64 j))
theorem loop1144a {σ:St} {Q:SEx → St → Prop} (b:B) (c:K) (hl:c.args.length ≤ 12) (ho:∀ a,a ∈ c.args → a.Ok) (H:FK2 b c σ) (s5:σ.sl 5=.c (.v (.int .i64 (0:Nat))))
  (hR:∀ σ',rowA b c.args 0=false → σ'.sl 4=bb false → Q .ret σ') (hQ:∀ σ',rowA b c.args 0=true → FK2 b c σ' → Q .normal σ'):W Tryz.prog 1144000 (.loop c1144b0) σ (onBlock 0 Q):=by
 refine W_loop (J1144a b c) c.args.length ⟨0,by simp,by simp,H,s5⟩ ?_
 clear H s5 σ
 rintro m σ ⟨j,hm,hp,⟨s2,o2,s3,o3⟩,s5⟩
 simp only [K.cells] at o3
 unfold c1144b0
 by_cases hj:j < c.args.length
 ·have w1:=wrap_succ (i:=j) (by omega)
  obtain ⟨a,ha1⟩:=at_of hj
  obtain ⟨_,ha2⟩:=getE ha1
  rw [drop_at ha1,rowA] at hp
  simp [s2,o2,s3,o3,s5,hj]
  refine W_dregA ?_
  simp [s2,o2,s3,o3,s5,hj,ha2,A.cells,B.cells]
  refine CallA.fn (fn1141 b a j (by omega) (ho a (List.mem_of_getElem? ha1))) (by simp [bm,am,ib,A.cells,B.cells]) (by simp) rfl ?_
  cases hin:a.right b j with
  | false=>
   rw [hin] at hp
   simp [bb]
   refine realC_n ?_
   simp
   exact hR _ (by simpa using hp.symm) (by simp [bb])
  | true=>
   rw [hin] at hp
   simp [bb]
   refine realC_n ?_
   simp [s5,w1]
   exact ⟨m - 1,by omega,j + 1,by omega,by simpa using hp,⟨by simp [s2],by simp [o2],by simp [s3],by simp [o3,K.cells]⟩,by simp⟩
 ·have:j=c.args.length:=by omega
  subst this
  simp [rowA] at hp
  simp [s3,o3,s5]
  exact hQ _ hp ⟨by simp [s2],by simp [o2],by simp [s3],by simp [o3,K.cells]⟩
def J1144b (b:B) (c:K) (m:Nat) (σ:St):Prop:=∃ j:Nat,j + m=c.idx.length ∧ allIn (c.idx.drop j) (c.args.length:Int)=allIn c.idx (c.args.length:Int) ∧ FK2 b c σ ∧ σ.sl 6=.c (.v (.int .i64 j))
theorem loop1144b {σ:St} {Q:SEx → St → Prop} (b:B) (c:K) (hl:c.idx.length ≤ 1000000000000000) (ho:∀ t,t ∈ c.idx → t.ok) (H:FK2 b c σ) (s6:σ.sl 6=.c (.v (.int .i64 (0:Nat))))
  (hR:∀ σ',allIn c.idx (c.args.length:Int)=false → σ'.sl 4=bb false → Q .ret σ') (hQ:∀ σ',allIn c.idx (c.args.length:Int)=true → FK2 b c σ' → Q .normal σ'):W Tryz.prog 1144000 (.loop c1144b1) σ (onBlock 2 Q):=by
 refine W_loop (J1144b b c) c.idx.length ⟨0,by simp,by simp,H,s6⟩ ?_
 clear H s6 σ
 rintro m σ ⟨j,hm,hp,⟨s2,o2,s3,o3⟩,s6⟩
 simp only [K.cells] at o3
 unfold c1144b1
 by_cases hj:j < c.idx.length
 ·have w1:=wrap_succ (i:=j) (by omega)
  obtain ⟨d,hd1⟩:=at_of hj
  obtain ⟨_,hd2⟩:=getE hd1
  rw [drop_at hd1,allIn,List.all_cons,← allIn] at hp
  simp [s3,o3,s6,hj]
  refine W_dregA ?_
  simp [s3,o3,s6,hj,hd2,cells_eq]
  refine CallA.fn (fn1142 d (c.args.length:Int) (ho d (List.mem_of_getElem? hd1)).1) (by simp [tm,ib,cells_eq]) (by simp) rfl ?_
  cases hin:d.inn (c.args.length:Int) with
  | false=>
   rw [hin] at hp
   simp [bb]
   refine realC_n ?_
   simp
   exact hR _ (by simpa using hp.symm) (by simp [bb])
  | true=>
   rw [hin] at hp
   simp [bb]
   refine realC_n ?_
   simp [s6,w1]
   exact ⟨m - 1,by omega,j + 1,by omega,by simpa using hp,⟨by simp [s2],by simp [o2],by simp [s3],by simp [o3,K.cells]⟩,by simp⟩
 ·have:j=c.idx.length:=by omega
  subst this
  simp [allIn] at hp
  simp [s3,o3,s6]
  exact hQ _ (by simpa [allIn] using hp) ⟨by simp [s2],by simp [o2],by simp [s3],by simp [o3,K.cells]⟩
theorem real_km {c:K} (h:Real (km c)):c.args.length * 104 ≤ 140737488355328 ∧ c.idx.length * 40 ≤ 140737488355328:=by
 have h1:=real_cell h (show .sl 7 104 (c.args.map A.cells) ∈ c.cells by simp [K.cells])
 have h2:=real_cell h (show .sl 3 40 (c.idx.map T.cells) ∈ c.cells by simp [K.cells])
 exact ⟨by simpa [room] using h1,by simpa [room] using h2⟩
theorem fn1144 (b:B) (c:K) (hO:c.Ok):Fn Tryz.prog 144 [bm b,km c] (bb (c.right b)):=by
 refine fn_of (base:=1144000) ok1144 rfl fun σ h0 hr=>?_
 have s0:σ.sl 0=bm b:=h0 0
 have s1:σ.sl 1=km c:=h0 1
 have hl1:=real_b1 (hr (bm b) (by simp))
 obtain ⟨ha1,ha2⟩:=real_km (hr (km c) (by simp))
 simp only [bm,B.cells] at s0
 simp only [km,K.cells] at s1
 clear h0 hr
 have w9:IntKind.wrap .i64 ((b.sorts.length:Int) - 1)=(b.sorts.length:Int) - 1:=wrap_id (by omega) (by omega)
 unfold c1144
 simp [s0,s1]
 refine W_dregA ?_
 simp [s0,s1,w9]
 refine CallA.fn (fn1102 c.sort 0 ((b.sorts.length:Int) - 1)) (by simp [ib]) (by simp) rfl ?_
 cases hx:b.sorts[c.sort.toNat]? with
 | none=>
  have hlt:=List.getElem?_eq_none_iff.1 hx
  have hb:btw c.sort 0 ((b.sorts.length:Int) - 1)=false:=by simp [btw];omega
  have fin:c.right b=false:=by
   have:(!(decide (c.sort < 0) || decide ((b.sorts.length:Int) ≤ c.sort)))=false:=by simp;omega
   simp [K.right,this]
  simp [s0,s1,hx,hb,bb]
  refine realC_n ?_
  simp [r1144,bb,fin]
 | some s=>
  have hlt:c.sort.toNat < b.sorts.length:=(List.getElem?_eq_some_iff.1 hx).1
  have hsa:sAt b c.sort=s:=by simp [sAt,hx]
  by_cases c3:c.sort < 0
  ·have hb:btw c.sort 0 ((b.sorts.length:Int) - 1)=false:=by simp [btw];omega
   simp [s0,s1,hx,hb,bb,S.cells]
   refine realC_n ?_
   simp [r1144,bb,K.right,c3]
  ·have hb:btw c.sort 0 ((b.sorts.length:Int) - 1)=true:=by simp [btw];omega
   have hs0:(decide (c.sort < 0) || decide ((b.sorts.length:Int) ≤ c.sort))=false:=by simp;omega
   by_cases c2:12 < c.args.length
   ·have c2':(12:Int) < c.args.length:=by omega
    simp [s0,s1,hx,hb,bb,S.cells,c2,c2']
    refine realC_n ?_
    simp [r1144,bb,K.right,rowOk,show ¬ c.args.length ≤ 12 by omega]
   ·have c2':¬ (12:Int) < c.args.length:=by omega
    have hro:rowOk b c.args=rowA b c.args 0:=by simp [rowOk];intro _;omega
    by_cases c5:c.idx.length=s.idx.length
    ·have c5':(c.idx.length:Int)=s.idx.length:=by omega
     simp [s0,s1,hx,hb,bb,S.cells,c2,c2',c5,c5']
     refine ⟨by omega,realC_n ?_⟩
     simp
     refine loop1144a b c (by omega) hO.args ⟨by simp,by simp [B.cells],by simp,by simp [K.cells]⟩ (by simp) (fun σ' e q4=>?_) fun σ' e H=>?_
     ·simp [q4,r1144,bb,K.right,hro,e]
     obtain ⟨q2,o2,q3,o3⟩:=H
     simp
     refine loop1144b b c (by omega) hO.idx ⟨by simp [q2],by simp [o2],by simp [q3],by simp [o3]⟩ (by simp) (fun σ2 e2 q4=>?_) fun σ2 e2 H=>?_
     ·simp [q4,r1144,bb,K.right,e2]
     obtain ⟨q2,o2,q3,o3⟩:=H
     simp only [K.cells] at o3
     simp only [B.cells] at o2
     cases hd:s.dec with
     | true=>
      simp [q2,o2,q3,o3,hx,S.cells,hd]
      refine ⟨by omega,?_⟩
      refine ECall.fn (fn1142 c.dec (c.args.length:Int) hO.dec.1) (by simp [tm,ib,cells_eq]) (by simp) rfl fun _=>?_
      simp [r1144,bb,K.right,hro,e,e2,hs0,hsa,c5,maybeIn,hd]
     | false=>
      simp [q2,o2,q3,o3,hx,S.cells,hd]
      refine ⟨by omega,?_⟩
      refine ECall.fn (fn1143 c.dec) (by simp [tm,ib,cells_eq]) (by simp) rfl fun _=>?_
      simp [r1144,bb,K.right,hro,e,e2,hs0,hsa,c5,maybeIn,hd]
    ·have c5':¬ (c.idx.length:Int)=s.idx.length:=by omega
     simp [s0,s1,hx,hb,bb,S.cells,c2,c2',c5,c5']
     refine ⟨by omega,realC_n ?_⟩
     simp [r1144,bb,K.right,hsa,c5]
end Go.Abs
