/- THIS TEXT PROVES A PART OF A CALCULUS THAT TELLS WHAT A LOADED GO FUNCTION DOES WITHOUT NAMING MEMORY: each rule is proved against the machine, for every program and every world; its conditions stand in each theorem. -/
import Derived.Test.YtfgjannlepahgaaNaAM1
set_option linter.unusedVariables false
set_option linter.unusedSimpArgs false
namespace Go.Abs
variable {P:Program} {base:Nat} {σ:St}
def St.set (σ:St) (d:Nat) (v:AV):St:={ σ with sl:=upd σ.sl d v }
def St.new (σ:St) (k:Nat) (o:Obj):St:={ σ with ob:=fun k'=>if k'=k then some o else σ.ob k',tg:=fun k'=>if k'=k then σ.tg k + 1 else σ.tg k' }
def St.puto (σ:St) (k:Nat) (o:Obj):St:={ σ with ob:=fun k'=>if k'=k then some o else σ.ob k' }
def St.del (σ:St) (k:Nat):St:={ σ with ob:=fun k'=>if k'=k then none else σ.ob k',tg:=fun k'=>if k'=k then σ.tg k + 1 else σ.tg k' }
@[simp] theorem set_sl (d:Nat) (v:AV) (s:Nat):(σ.set d v).sl s=if s=d then v else σ.sl s:=rfl
@[simp] theorem set_ob (d:Nat) (v:AV):(σ.set d v).ob=σ.ob:=rfl
@[simp] theorem set_tg (d:Nat) (v:AV):(σ.set d v).tg=σ.tg:=rfl
@[simp] theorem new_sl (k:Nat) (o:Obj):(σ.new k o).sl=σ.sl:=rfl
@[simp] theorem new_ob (k:Nat) (o:Obj) (k':Nat):(σ.new k o).ob k'=if k'=k then some o else σ.ob k':=rfl
@[simp] theorem new_tg (k:Nat) (o:Obj) (k':Nat):(σ.new k o).tg k'=if k'=k then σ.tg k + 1 else σ.tg k':=rfl
@[simp] theorem puto_sl (k:Nat) (o:Obj):(σ.puto k o).sl=σ.sl:=rfl
@[simp] theorem puto_ob (k:Nat) (o:Obj) (k':Nat):(σ.puto k o).ob k'=if k'=k then some o else σ.ob k':=rfl
@[simp] theorem puto_tg (k:Nat) (o:Obj):(σ.puto k o).tg=σ.tg:=rfl
@[simp] theorem del_sl (k:Nat):(σ.del k).sl=σ.sl:=rfl
@[simp] theorem del_ob (k:Nat) (k':Nat):(σ.del k).ob k'=if k'=k then none else σ.ob k':=rfl
@[simp] theorem del_tg (k:Nat) (k':Nat):(σ.del k).tg k'=if k'=k then σ.tg k + 1 else σ.tg k':=rfl
@[simp] theorem frz_sl (k ty sz bs:Nat) (es:List (List Cell)):(σ.frz k ty sz bs es).sl=σ.sl:=rfl
@[simp] theorem frz_ob (k ty sz bs:Nat) (es:List (List Cell)) (k':Nat):(σ.frz k ty sz bs es).ob k'=if k'=k then some (.row ty sz bs es) else σ.ob k':=rfl
@[simp] theorem frz_tg (k ty sz bs:Nat) (es:List (List Cell)):(σ.frz k ty sz bs es).tg=σ.tg:=rfl
@[simp] theorem ap_quiet (d:Nat) (v:AV) (rd:List Nat):σ.ap (some d) ⟨v,[],[],rd⟩=σ.set d v:=rfl
@[simp] theorem ap_quiet0 (v:AV) (rd:List Nat):σ.ap none ⟨v,[],[],rd⟩=σ:=rfl
theorem st_ext {x y:St} (a:∀ s,x.sl s=y.sl s) (b:∀ k,x.ob k=y.ob k) (c:∀ k,x.tg k=y.tg k):x=y:=by
 cases x;cases y
 congr
 ·exact funext a
 ·exact funext b
 ·exact funext c
@[simp] theorem ap_new (d k:Nat) (v:AV) (o:Obj) (rd:List Nat):σ.ap (some d) ⟨v,[k],[(k,o)],rd⟩=(σ.new k o).set d v:=by
 refine st_ext (fun s=>rfl) (fun k'=>?_) fun k'=>?_
 ·simp only [St.ap,obAfter,St.set,St.new,List.lookup_cons,List.lookup_nil]
  by_cases h:k'=k
  ·simp [h]
  ·have h2:(k' == k)=false:=by simpa using h
   simp [h,h2]
 ·by_cases h:k'=k
  ·simp [St.ap,h]
  ·simp [St.ap,h]
theorem ap_put (d:Nat) (k:Nat) (v:AV) (o:Obj) (rd:List Nat):σ.ap (some d) ⟨v,[],[(k,o)],rd⟩=(σ.puto k o).set d v:=by
 refine st_ext (fun s=>rfl) (fun k'=>?_) fun k'=>rfl
 simp only [St.ap,obAfter,St.puto,St.set,List.lookup_cons,List.lookup_nil]
 by_cases h:k'=k
 ·simp [h]
 ·have h2:(k' == k)=false:=by simpa using h
  simp [h,h2]
@[simp] theorem ap_put0 (k:Nat) (v:AV) (o:Obj) (rd:List Nat):σ.ap none ⟨v,[],[(k,o)],rd⟩=σ.puto k o:=by
 refine st_ext (fun s=>rfl) (fun k'=>?_) fun k'=>rfl
 simp only [St.ap,obAfter,St.puto,St.set,List.lookup_cons,List.lookup_nil]
 by_cases h:k'=k
 ·simp [h]
 ·have h2:(k' == k)=false:=by simpa using h
  simp [h,h2]
theorem ap_app {d key k:Nat} {v:AV} {o:Obj} {rd:List Nat} (h:key ≠ k):σ.ap (some d) ⟨v,[key,k],[(key,o)],rd⟩=((σ.del k).new key o).set d v:=by
 refine st_ext (fun s=>rfl) (fun k'=>?_) fun k'=>?_
 ·simp only [St.ap,obAfter,St.set,St.new,St.del,List.lookup_cons,List.lookup_nil]
  by_cases h1:k'=key
  ·simp [h1]
  ·have h2:(k' == key)=false:=by simpa using h1
   by_cases h3:k'=k
   ·subst h3;simp [h1,h2]
   ·simp [h1,h2,h3]
 ·by_cases h1:k'=key
  ·subst h1;simp [St.ap,h]
  ·by_cases h3:k'=k
   ·subst h3;simp [St.ap,h1]
   ·simp [St.ap,h1,h3]
@[simp] theorem ev_t (m:Nat):σ.ev (.t m)=σ.sl m:=rfl
@[simp] theorem ev_k (v:Value):σ.ev (.k v)=.c (.v v):=rfl
@[simp] theorem ev_nil (sz bs:Nat):σ.ev (.nil sz bs)=.c (.cap sz bs []):=rfl
@[simp] theorem ev_f (m:Nat):σ.ev (.f m)=.c (.clo m [] []):=rfl
@[simp] theorem un_c (x:Cell):un (.c x)=.c x:=rfl
@[simp] theorem un_agg (x:List Cell):un (.agg x)=.agg x:=rfl
@[simp] theorem un_tup (x:List AV):un (.tup x)=.tup x:=rfl
@[simp] theorem un_gd (b:Bool) (x:AV):un (.gd b x)=x:=rfl
@[simp] theorem gok_c (b:Bool) (x:Cell):gok b (.c x)=True:=rfl
@[simp] theorem gok_agg (b:Bool) (x:List Cell):gok b (.agg x)=True:=rfl
@[simp] theorem gok_tup (b:Bool) (x:List AV):gok b (.tup x)=True:=rfl
@[simp] theorem gok_gd (b b':Bool) (x:AV):gok b (.gd b' x)=(b=true → b'=true):=rfl
def opsC (P:Program) (base:Nat) (l:List SO) (K:St → Prop) (σ:St):Prop:=WOps P base l σ K
@[simp] theorem opsC_ap (l:List SO) (K:St → Prop):opsC P base l K σ=WOps P base l σ K:=rfl
def seqC (P:Program) (base:Nat) (y:SCode) (Q:SEx → St → Prop):SEx → St → Prop:=onSeq (fun σ'=>W P base y σ' Q) Q
@[simp] theorem seqC_n (y:SCode) (Q:SEx → St → Prop):seqC P base y Q .normal σ=W P base y σ Q:=rfl
@[simp] theorem seqC_e (y:SCode) (Q:SEx → St → Prop) (id:Nat):seqC P base y Q (.exit id) σ=Q (.exit id) σ:=rfl
@[simp] theorem seqC_r (y:SCode) (Q:SEx → St → Prop):seqC P base y Q .ret σ=Q .ret σ:=rfl
def brC (P:Program) (base:Nat) (x y:SCode) (σ:St) (Q:SEx → St → Prop) (t:Bool):Prop:=(t=true → W P base x σ Q) ∧ (t=false → W P base y σ Q)
@[simp] theorem brC_t (x y:SCode) (Q:SEx → St → Prop):brC P base x y σ Q true=W P base x σ Q:=by simp [brC]
@[simp] theorem brC_f (x y:SCode) (Q:SEx → St → Prop):brC P base x y σ Q false=W P base y σ Q:=by simp [brC]
@[simp low] theorem brC_b (x y:SCode) (Q:SEx → St → Prop) (t:Bool):brC P base x y σ Q t=((t=true → W P base x σ Q) ∧ (t=false → W P base y σ Q)):=rfl
def frzC (k:Nat) (σ:St) (Q:SEx → St → Prop) (ty sz bs:Nat) (es:List (List Cell)):Prop:=Q .normal (σ.frz k ty sz bs es)
@[simp] theorem frzC_ap (k:Nat) (Q:SEx → St → Prop) (ty sz bs:Nat) (es:List (List Cell)):frzC k σ Q ty sz bs es=Q .normal (σ.frz k ty sz bs es):=rfl
def apC (σ:St) (d:Option Nat) (K:St → Prop) (e:Eff):Prop:=K (σ.ap d e)
@[simp] theorem apC_ap (d:Option Nat) (K:St → Prop) (e:Eff):apC σ d K e=K (σ.ap d e):=rfl
def loopC (J:Nat → St → Prop) (k:Nat) (Q:SEx → St → Prop):SEx → St → Prop:=onSeq (fun σ'=>∃ k',k' < k ∧ J k' σ') Q
@[simp] theorem loopC_n (J:Nat → St → Prop) (k:Nat) (Q:SEx → St → Prop):loopC J k Q .normal σ=∃ k',k' < k ∧ J k' σ:=rfl
@[simp] theorem loopC_e (J:Nat → St → Prop) (k:Nat) (Q:SEx → St → Prop) (id:Nat):loopC J k Q (.exit id) σ=Q (.exit id) σ:=rfl
@[simp] theorem loopC_r (J:Nat → St → Prop) (k:Nat) (Q:SEx → St → Prop):loopC J k Q .ret σ=Q .ret σ:=rfl
def gbK (o:Option Bool) (F:Bool → Prop):Prop:=∃ β,o=some β ∧ F β
@[simp] theorem gbK_some (b:Bool) (F:Bool → Prop):gbK (some b) F=F b:=by simp [gbK]
@[congr] theorem gbK_congr {o o':Option Bool} {F:Bool → Prop} (h:o=o'):gbK o F=gbK o' F:=by rw [h]
def boolK (x:AV) (F:Bool → Prop):Prop:=∃ t,x=.c (.v (.bool t)) ∧ F t
@[simp] theorem boolK_c (b:Bool) (F:Bool → Prop):boolK (.c (.v (.bool b))) F=F b:=by simp [boolK]
@[congr] theorem boolK_congr {x x':AV} {F:Bool → Prop} (h:x=x'):boolK x F=boolK x' F:=by rw [h]
def brK (t:Bool) (X Y:Prop):Prop:=(t=true → X) ∧ (t=false → Y)
@[simp] theorem brK_t (X Y:Prop):brK true X Y=X:=by simp [brK]
@[simp] theorem brK_f (X Y:Prop):brK false X Y=Y:=by simp [brK]
@[congr] theorem brK_congr {t t':Bool} {X Y:Prop} (h:t=t'):brK t X Y=brK t' X Y:=by rw [h]
@[simp low] theorem brK_b (t:Bool) (X Y:Prop):brK t X Y=((t=true → X) ∧ (t=false → Y)):=rfl
def condK (x:AV) (F:Bool → Prop):Prop:=gok true x ∧ boolK (un x) F
@[simp] theorem condK_c (b:Bool) (F:Bool → Prop):condK (.c (.v (.bool b))) F=F b:=by simp [condK]
@[simp] theorem condK_gd (b b':Bool) (F:Bool → Prop):condK (.gd b' (.c (.v (.bool b)))) F=(b'=true ∧ F b):=by simp [condK]
@[congr] theorem condK_congr {x x':AV} {F:Bool → Prop} (h:x=x'):condK x F=condK x' F:=by rw [h]
def frzK (o:Option Obj) (F:Nat → Nat → Nat → List (List Cell) → Prop):Prop:=∃ ty sz bs es,o=some (.mrow ty sz bs es) ∧ F ty sz bs es
@[simp] theorem frzK_some (ty sz bs:Nat) (es:List (List Cell)) (F:Nat → Nat → Nat → List (List Cell) → Prop):frzK (some (.mrow ty sz bs es)) F=F ty sz bs es:=propext ⟨fun ⟨_,_,_,_,h,h2⟩=>by cases h;exact h2,fun h=>⟨_,_,_,_,rfl,h⟩⟩
@[congr] theorem frzK_congr {o o':Option Obj} {F:Nat → Nat → Nat → List (List Cell) → Prop} (h:o=o'):frzK o F=frzK o' F:=by rw [h]
@[simp] theorem W_skip (Q:SEx → St → Prop):W P base .skip σ Q=Q .normal σ:=rfl
@[simp] theorem W_reg (l:List SO) (Q:SEx → St → Prop):W P base (.reg l) σ Q=WOps P base l σ (Q .normal):=rfl
@[simp] theorem W_seq (x y:SCode) (Q:SEx → St → Prop):W P base (.seq x y) σ Q=W P base x σ (seqC P base y Q):=rfl
@[simp] theorem W_cond (c:SArg) (x y:SCode) (Q:SEx → St → Prop):W P base (.cond c x y) σ Q=condK (σ.ev c) (brC P base x y σ Q):=rfl
@[simp] theorem W_block (id:Nat) (x:SCode) (Q:SEx → St → Prop):W P base (.block id x) σ Q=W P base x σ (onBlock id Q):=rfl
@[simp] theorem W_exit (id:Nat) (Q:SEx → St → Prop):W P base (.exit id) σ Q=Q (.exit id) σ:=rfl
@[simp] theorem W_ret (Q:SEx → St → Prop):W P base .ret σ Q=Q .ret σ:=rfl
@[simp] theorem W_frz (k:Nat) (Q:SEx → St → Prop):W P base (.frz k) σ Q=frzK (σ.ob k) (frzC k σ Q):=rfl
@[simp] theorem onSeq_n (K:St → Prop) (Q:SEx → St → Prop):onSeq K Q .normal σ=K σ:=rfl
@[simp] theorem onSeq_e (K:St → Prop) (Q:SEx → St → Prop) (id:Nat):onSeq K Q (.exit id) σ=Q (.exit id) σ:=rfl
@[simp] theorem onSeq_r (K:St → Prop) (Q:SEx → St → Prop):onSeq K Q .ret σ=Q .ret σ:=rfl
@[simp] theorem onBlock_n (id:Nat) (Q:SEx → St → Prop):onBlock id Q .normal σ=Q .normal σ:=rfl
@[simp] theorem onBlock_e (id id':Nat) (Q:SEx → St → Prop):onBlock id Q (.exit id') σ=if id'=id then Q .normal σ else Q (.exit id') σ:=rfl
@[simp] theorem onBlock_r (id:Nat) (Q:SEx → St → Prop):onBlock id Q .ret σ=Q .ret σ:=rfl
@[simp] theorem WOps_nil (K:St → Prop):WOps P base [] σ K=K σ:=rfl
@[simp] theorem WOps_cons (so:SO) (l:List SO) (K:St → Prop):WOps P base (so :: l) σ K=W1 P base so σ (opsC P base l K):=rfl
theorem W_loop {x:SCode} {Q:SEx → St → Prop} (J:Nat → St → Prop) (m:Nat) (h0:J m σ) (h:∀ k σ,J k σ → W P base x σ (loopC J k Q)):W P base (.loop x) σ Q:=⟨J,m,h0,h⟩
def WE (o:Option Eff) (c:Prop) (K:Eff → Prop):Prop:=∃ e,o=some e ∧ c ∧ K e
theorem WE_some (e:Eff) (c:Prop) (K:Eff → Prop):WE (some e) c K=(c ∧ K e):=by simp [WE]
@[simp low] theorem WE_rest (e:Eff) (c:Prop) (K:Eff → Prop):WE (some e) c K=(c ∧ K e):=WE_some e c K
@[simp] theorem WE_true (e:Eff) (K:Eff → Prop):WE (some e) True K=K e:=by simp [WE]
def gW (β:Bool):Option Eff → Option Eff
 | some e=>some e
 | none=>if β then none else some gdD0
def gC (c:Prop):Option Eff → Prop
 | some _=>c
 | none=>True
theorem evG_gW (q:Nat × Bool) (β:Bool) (o:Option Eff):evG (some q) β o=gW β o:=by cases o <;> rfl
theorem condG_gC (q:Nat × Bool) (c:Prop) (o:Option Eff):condG (some q) c o=gC c o:=by cases o <;> rfl
@[simp] theorem gW_some (β:Bool) (e:Eff):gW β (some e)=some e:=rfl
@[simp] theorem gC_some (c:Prop) (e:Eff):gC c (some e)=c:=rfl
def WG (o:Option Eff) (c:Prop) (β:Bool) (σ:St) (d:Option Nat) (K:St → Prop):Prop:=WE (gW β o) (gC c o) fun e=>K (σ.ap d (gE β e))
@[simp low] theorem WG_eff (v:AV) (pur:List Nat) (put:List (Nat × Obj)) (rd:List Nat) (c:Prop) (β:Bool) (d:Option Nat) (K:St → Prop):WG (some ⟨v,pur,put,rd⟩) c β σ d K=(c ∧ K (σ.ap d (gE β ⟨v,pur,put,rd⟩))):=by simp [WG,WE]
@[simp] theorem gE_t (e:Eff):gE true e=⟨.gd true e.val,e.pur,e.put,e.rd⟩:=rfl
@[simp] theorem gE_f (e:Eff):gE false e=⟨.gd false e.val,[],[],e.rd⟩:=rfl
@[simp] theorem WG_pure (v:AV) (β:Bool) (d:Nat) (K:St → Prop):WG (some (Eff.pure v)) True β σ (some d) K=K (σ.set d (.gd β v)):=by simp [WG,WE,Eff.pure,gE]
@[simp] theorem WG_look (v:AV) (l:List Nat) (β:Bool) (d:Nat) (K:St → Prop):WG (some (Eff.look v l)) True β σ (some d) K=K (σ.set d (.gd β v)):=by simp [WG,WE,Eff.look,gE]
@[simp low] theorem WG_rest (v:AV) (l:List Nat) (c:Prop) (β:Bool) (d:Nat) (K:St → Prop):WG (some (Eff.look v l)) c β σ (some d) K=(c ∧ K (σ.set d (.gd β v))):=by simp [WG,WE,Eff.look,gE]
@[simp low] theorem WG_rest2 (v:AV) (c:Prop) (β:Bool) (d:Nat) (K:St → Prop):WG (some (Eff.pure v)) c β σ (some d) K=(c ∧ K (σ.set d (.gd β v))):=by simp [WG,WE,Eff.pure,gE]
@[simp] theorem WG_skip (c:Prop) (d:Nat) (K:St → Prop):WG none c false σ (some d) K=K (σ.set d (.gd false (.c (.v (.bool false))))):=by simp [WG,WE,gW,gC,gdD0,Eff.pure,gE]
@[simp] theorem WE_none (c:Prop) (K:Eff → Prop):WE none c K=False:=by simp [WE]
theorem W1_plain {d:Option Nat} {op:SOp} {K:St → Prop} (h:op.isCall=false):W1 P base ⟨d,none,op⟩ σ K=WE (ev1 (base + d.getD 0) σ.ev σ op) (cond true σ.ev σ op) (fun e=>K (σ.ap d e)):=by
 apply propext
 cases op <;> first
  | (simp [SOp.isCall] at h;done)
  | skip
 all_goals
  simp only [W1,SemO,gdOf,gEff_none,SOp.isCall,WE,evG_none,condG_none]
  constructor
  ·rintro ⟨e,⟨β,hβ,e0,h1,h2,rfl⟩,h4⟩
   cases hβ
   exact ⟨_,h1,h2,h4 (fun _ _ h=>by cases h)⟩
  ·rintro ⟨e,h1,h2,h3⟩
   exact ⟨e,⟨true,rfl,e,h1,h2,rfl⟩,fun _=>h3⟩
theorem W1_gd {d:Option Nat} {s:Nat} {want:Bool} {op:SOp} {K:St → Prop} (h:op.isCall=false):W1 P base ⟨d,some (s,want),op⟩ σ K=(∃ β,gb (σ.sl s) want=some β ∧
  WE (gW β (ev1 (base + d.getD 0) σ.ev σ op)) (gC (cond β σ.ev σ op) (ev1 (base + d.getD 0) σ.ev σ op)) (fun e=>K (σ.ap d (gE β e)))):=by
 apply propext
 cases op <;> first
  | (simp [SOp.isCall] at h;done)
  | skip
 all_goals
  simp only [W1,SemO,gdOf,gEff_some,SOp.isCall,WE,evG_gW,condG_gC]
  constructor
  ·rintro ⟨e,⟨β,hβ,e0,h1,h2,rfl⟩,h4⟩
   exact ⟨β,hβ,e0,h1,h2,h4 (fun _ _ h=>by cases h)⟩
  ·rintro ⟨β,hβ,e,h1,h2,h3⟩
   exact ⟨gE β e,⟨β,hβ,e,h1,h2,rfl⟩,fun _=>h3⟩
theorem call_sem {β:Bool} {fv:AV} {xs:List AV} {fn:Nat} {res:AV} (h0:un fv=.c (.clo fn [] [])) (h1:gok β fv) (h2:∀ x,x ∈ xs → gok β x) (h3:β=true → Fn P fn (xs.map fun x=>toD2 σ (un x)) res) (h4:res.keys2=[]) :
  CallSem P σ β fv xs fn [] [] [] [] res [] where
 c0:=h0
 gf:=h1
 gx:=h2
 cs h:=by simpa [refs,Fn] using h3 h
 ci k t q h:=by simp at h
 co k t q h:=by simp at h
 cp k h:=by simp at h
 kres k h:=by rw [h4] at h;cases h
 kobs k t q h:=by simp at h
def ECall (P:Program) (σ:St) (fv:AV) (xs:List AV) (d:Option Nat) (K:St → Prop):Prop:=
 ∃ fn k1 k2 ins outs res pur ps,CallSem P σ true fv xs fn k1 k2 ins outs res pur ∧ PutOf ins outs pur ps ∧ ((∀ d',d=some d' → RealA res) → K (σ.ap d ⟨res,pur,ps,ins.map (·.1)⟩))
def GCall (P:Program) (σ:St) (β:Bool) (fv:AV) (xs:List AV) (d:Option Nat) (K:St → Prop):Prop:=
 ∃ fn k1 k2 ins outs res,CallSem P σ β fv xs fn k1 k2 ins outs res [] ∧ PutOf ins outs [] [] ∧ ((∀ d',d=some d' → RealA (.gd β res)) → K (σ.ap d ⟨.gd β res,[],[],ins.map (·.1)⟩))
theorem ECall_W1 {d:Option Nat} {f:SArg} {xs:List SArg} {K:St → Prop} (h:ECall P σ (σ.ev f) (xs.map σ.ev) d K):W1 P base ⟨d,none,.call f xs⟩ σ K:=by
 obtain ⟨fn,k1,k2,ins,outs,res,pur,ps,h1,hp,h2⟩:=h
 exact ⟨_,⟨true,rfl,fn,k1,k2,ins,outs,res,pur,ps,h1,hp,fun h=>absurd rfl h,rfl⟩,fun h=>h2 fun d' hd=>h d' hd rfl⟩
theorem ECall.fn {d fn:Nat} {xs args:List AV} {res:AV} {K:St → Prop} (hs:Fn P fn args res) (ha:xs.map (fun x=>toD2 σ (un x))=args)
  (h2:∀ x,x ∈ xs → gok true x) (h4:res.keys2=[]) (hK:RealA res → K (σ.set d res)):ECall P σ (.c (.clo fn [] [])) xs (some d) K:=by
 subst ha
 exact ⟨fn,[],[],[],[],res,[],[],call_sem rfl trivial h2 (fun _=>hs) h4,.inl rfl,fun h=>hK (h d rfl)⟩
theorem GCall.fn {d fn:Nat} {β:Bool} {xs args:List AV} {res:AV} {K:St → Prop} (hs:β=true → Fn P fn args res) (ha:xs.map (fun x=>toD2 σ (un x))=args)
  (h2:∀ x,x ∈ xs → gok β x) (h4:res.keys2=[]) (hK:RealA (.gd β res) → K (σ.set d (.gd β res))):GCall P σ β (.c (.clo fn [] [])) xs (some d) K:=by
 subst ha
 exact ⟨fn,[],[],[],[],res,call_sem rfl trivial h2 hs h4,.inl rfl,fun h=>hK (h d rfl)⟩
theorem fn_of {f m n:Nat} {args:List AV} {res:AV} {sc:SCode} {rs:List RR} (hok:okFn P f n sc rs m=true) (hm:args.length=m)
  (hW:∀ σ:St,(∀ s,σ.sl s=slotsOf args s) → (∀ x,x ∈ args → Real x) → W P base sc σ (onEnd [] rs res [])):Fn P f args res:=
 spec_of (base:=base) hok hm fun T _ hr=>hW _ (fun _=>rfl) hr
theorem EndOK_fn {rs:List RR} {res:AV}:EndOK [] rs res [] σ ↔ (∀ r,r ∈ rs → rrGok σ r) ∧ resOf σ rs=some res:=
 ⟨fun h=>⟨h.gk,h.res⟩,fun h=>⟨h.1,h.2,fun k t q h=>by simp at h⟩⟩
@[simp] theorem onEnd_n {rs:List RR} {res:AV}:onEnd [] rs res [] .normal σ=((∀ r,r ∈ rs → rrGok σ r) ∧ resOf σ rs=some res):=propext EndOK_fn
@[simp] theorem onEnd_r {rs:List RR} {res:AV}:onEnd [] rs res [] .ret σ=((∀ r,r ∈ rs → rrGok σ r) ∧ resOf σ rs=some res):=propext EndOK_fn
@[simp] theorem isCall_mv (x:SArg):(SOp.mv x).isCall=false:=rfl
@[simp] theorem isCall_pick (c a b:SArg):(SOp.pick c a b).isCall=false:=rfl
@[simp] theorem isCall_box (t:Nat) (x:SArg):(SOp.box t x).isCall=false:=rfl
@[simp] theorem isCall_alloc (t:Nat) (zs:List Cell):(SOp.alloc t zs).isCall=false:=rfl
@[simp] theorem isCall_build (t:Nat) (zs:List Cell) (ps:List (Nat × Nat × Nat × SArg)):(SOp.build t zs ps).isCall=false:=rfl
@[simp] theorem isCall_lit (t sz bs:Nat) (xs:List SArg):(SOp.lit t sz bs xs).isCall=false:=rfl
@[simp] theorem isCall_ld1 (t:Nat) (x:SArg):(SOp.ld1 t x).isCall=false:=rfl
@[simp] theorem isCall_ldf (t:Nat) (x:SArg):(SOp.ldf t x).isCall=false:=rfl
@[simp] theorem isCall_ldn (t n:Nat) (x:SArg):(SOp.ldn t n x).isCall=false:=rfl
@[simp] theorem isCall_st1 (t:Nat) (x v:SArg):(SOp.st1 t x v).isCall=false:=rfl
@[simp] theorem isCall_stn (t n:Nat) (x v:SArg):(SOp.stn t n x v).isCall=false:=rfl
@[simp] theorem isCall_nilc (x:SArg):(SOp.nilc x).isCall=false:=rfl
@[simp] theorem isCall_bin (o:BinOp) (x y:SArg):(SOp.bin o x y).isCall=false:=rfl
@[simp] theorem isCall_beq (n:Bool) (t:Nat) (x y:SArg):(SOp.beq n t x y).isCall=false:=rfl
@[simp] theorem isCall_aeq (n:Bool) (t:Nat) (x y:SArg):(SOp.aeq n t x y).isCall=false:=rfl
@[simp] theorem isCall_not (x:SArg):(SOp.not x).isCall=false:=rfl
@[simp] theorem isCall_neg (x:SArg):(SOp.neg x).isCall=false:=rfl
@[simp] theorem isCall_conv (t u:Nat) (k:IntKind) (x:SArg):(SOp.conv t u k x).isCall=false:=rfl
@[simp] theorem isCall_mkfn (f:Nat) (xs ys:List SArg):(SOp.mkfn f xs ys).isCall=false:=rfl
@[simp] theorem isCall_mk (t sz bs:Nat) (zs:List Cell) (n:SArg):(SOp.mk t sz bs zs n).isCall=false:=rfl
@[simp] theorem isCall_slc (t sz bs:Nat) (x:SArg) (lo hi mx:Option SArg):(SOp.slc t sz bs x lo hi mx).isCall=false:=rfl
@[simp] theorem isCall_fad (t i o:Nat) (x:SArg):(SOp.fad t i o x).isCall=false:=rfl
@[simp] theorem isCall_fld1 (t i o:Nat) (x:SArg):(SOp.fld1 t i o x).isCall=false:=rfl
@[simp] theorem isCall_fldn (t i o n:Nat) (x:SArg):(SOp.fldn t i o n x).isCall=false:=rfl
@[simp] theorem isCall_iad (t sz:Nat) (x i:SArg):(SOp.iad t sz x i).isCall=false:=rfl
@[simp] theorem isCall_iaa (t sz n:Nat) (x i:SArg):(SOp.iaa t sz n x i).isCall=false:=rfl
@[simp] theorem isCall_mkb (t bs:Nat) (z:Cell) (x:SArg):(SOp.mkb t bs z x).isCall=false:=rfl
@[simp] theorem isCall_inv (f:Nat) (bp:Bool) (t s:Nat) (xs:List SArg):(SOp.inv f bp t s xs).isCall=true:=rfl
@[simp] theorem isCall_ext (x:SArg) (i:Nat):(SOp.ext x i).isCall=false:=rfl
@[simp] theorem isCall_len (t:Nat) (x:SArg):(SOp.len t x).isCall=false:=rfl
@[simp] theorem isCall_mkmap (o:Bool):(SOp.mkmap o).isCall=false:=rfl
@[simp] theorem isCall_mset (o:Bool) (m k v:SArg):(SOp.mset o m k v).isCall=false:=rfl
@[simp] theorem isCall_mget (o b:Bool) (zs:List Cell) (m k:SArg):(SOp.mget o b zs m k).isCall=false:=rfl
@[simp] theorem isCall_app (t sz bs:Nat) (x y:SArg):(SOp.app t sz bs x y).isCall=false:=rfl
@[simp] theorem isCall_appm (t sz bs:Nat) (x y:SArg):(SOp.appm t sz bs x y).isCall=false:=rfl
@[simp] theorem isCall_cut (t sz:Nat) (x y:SArg):(SOp.cut t sz x y).isCall=false:=rfl
@[simp] theorem isCall_shr (t sz bs:Nat) (x y:SArg):(SOp.shr t sz bs x y).isCall=false:=rfl
@[simp] theorem isCall_mki (t:Nat) (x:SArg):(SOp.mki t x).isCall=false:=rfl
@[simp] theorem isCall_nileq (n:Bool) (x:SArg):(SOp.nileq n x).isCall=false:=rfl
@[simp] theorem isCall_appn (ty sz bs:Nat) (x y:SArg):(SOp.appn ty sz bs x y).isCall=false:=rfl
@[simp] theorem isCall_tas (t:Nat) (x:SArg):(SOp.tas t x).isCall=false:=rfl
@[simp] theorem isCall_pan (x:SArg):(SOp.pan x).isCall=false:=rfl
@[simp] theorem isCall_best (m:Bool) (xs:List SArg):(SOp.best m xs).isCall=false:=rfl
def WCall (P:Program) (base:Nat) (so:SO) (σ:St) (K:St → Prop):Prop:=W1 P base so σ K
@[simp] theorem W1_none {d:Option Nat} {op:SOp} {K:St → Prop}:W1 P base ⟨d,none,op⟩ σ K=if op.isCall=true then WCall P base ⟨d,none,op⟩ σ K else WE (ev1 (base + d.getD 0) σ.ev σ op) (cond true σ.ev σ op) (apC σ d K):=by
 by_cases h:op.isCall=true
 ·rw [if_pos h];rfl
 ·rw [if_neg h];exact W1_plain (by simpa using h)
def gdC (base:Nat) (op:SOp) (σ:St) (d:Option Nat) (K:St → Prop) (β:Bool):Prop:=WG (ev1 (base + d.getD 0) σ.ev σ op) (cond β σ.ev σ op) β σ d K
@[simp] theorem gdC_ap (op:SOp) (d:Option Nat) (K:St → Prop) (β:Bool):gdC base op σ d K β=WG (ev1 (base + d.getD 0) σ.ev σ op) (cond β σ.ev σ op) β σ d K:=rfl
@[simp] theorem W1_some {d:Option Nat} {s:Nat} {want:Bool} {op:SOp} {K:St → Prop}:W1 P base ⟨d,some (s,want),op⟩ σ K=if op.isCall=true then WCall P base ⟨d,some (s,want),op⟩ σ K else gbK (gb (σ.sl s) want) (gdC base op σ d K):=by
 by_cases h:op.isCall=true
 ·rw [if_pos h];rfl
 ·rw [if_neg h];exact W1_gd (by simpa using h)
theorem WCall_eq {d:Option Nat} {f:SArg} {xs:List SArg} {K:St → Prop}:WCall P base ⟨d,none,.call f xs⟩ σ K=ECall P σ (σ.ev f) (xs.map σ.ev) d K:=by
 apply propext
 constructor
 ·rintro ⟨e,⟨β,hβ,fn,k1,k2,ins,outs,res,pur,ps,h1,hp,_,rfl⟩,h2⟩
  cases hβ
  exact ⟨fn,k1,k2,ins,outs,res,pur,ps,h1,hp,fun h=>h2 fun d' hd _=>h d' hd⟩
 ·exact ECall_W1
def gcC (P:Program) (σ:St) (fv:AV) (xs:List AV) (d:Option Nat) (K:St → Prop) (β:Bool):Prop:=GCall P σ β fv xs d K
@[simp] theorem gcC_ap (fv:AV) (xs:List AV) (d:Option Nat) (K:St → Prop) (β:Bool):gcC P σ fv xs d K β=GCall P σ β fv xs d K:=rfl
theorem WCallG_eq {d:Option Nat} {s:Nat} {want:Bool} {f:SArg} {xs:List SArg} {K:St → Prop}:WCall P base ⟨d,some (s,want),.call f xs⟩ σ K=gbK (gb (σ.sl s) want) (gcC P σ (σ.ev f) (xs.map σ.ev) d K):=by
 apply propext
 constructor
 ·rintro ⟨e,⟨β,hβ,fn,k1,k2,ins,outs,res,pur,ps,h1,hp,hg,rfl⟩,h2⟩
  obtain ⟨rfl,rfl⟩:=hg (by simp)
  exact ⟨β,hβ,fn,k1,k2,ins,outs,res,h1,hp,fun h=>h2 fun d' hd _=>h d' hd⟩
 ·rintro ⟨β,hβ,fn,k1,k2,ins,outs,res,h1,hp,h2⟩
  exact ⟨_,⟨β,hβ,fn,k1,k2,ins,outs,res,[],[],h1,hp,fun _=>⟨rfl,rfl⟩,rfl⟩,fun h=>h2 fun d' hd=>h d' hd rfl⟩
theorem WCall_inv {d:Option Nat} {f ty s:Nat} {bp:Bool} {xs:List SArg} {K:St → Prop}:WCall P base ⟨d,none,.inv f bp ty s xs⟩ σ K=(gok true (σ.sl s) ∧ ECall P σ (.c (.clo f [] [])) (rcvE σ bp ty (un (σ.sl s)) :: xs.map σ.ev) d K):=by
 apply propext
 constructor
 ·rintro ⟨e,⟨β,hβ,hg,fn,k1,k2,ins,outs,res,pur,ps,h1,hp,_,rfl⟩,h2⟩
  cases hβ
  exact ⟨hg,fn,k1,k2,ins,outs,res,pur,ps,h1,hp,fun h=>h2 fun d' hd _=>h d' hd⟩
 ·rintro ⟨hg,fn,k1,k2,ins,outs,res,pur,ps,h1,hp,h2⟩
  exact ⟨_,⟨true,rfl,hg,fn,k1,k2,ins,outs,res,pur,ps,h1,hp,fun h=>absurd rfl h,rfl⟩,fun h=>h2 fun d' hd=>h d' hd rfl⟩
def giC (P:Program) (σ:St) (x fv:AV) (xs:List AV) (d:Option Nat) (K:St → Prop) (β:Bool):Prop:=gok β x ∧ GCall P σ β fv xs d K
@[simp] theorem giC_ap (x fv:AV) (xs:List AV) (d:Option Nat) (K:St → Prop) (β:Bool):giC P σ x fv xs d K β=(gok β x ∧ GCall P σ β fv xs d K):=rfl
theorem WCallG_inv {d:Option Nat} {q:Nat} {want:Bool} {f ty s:Nat} {bp:Bool} {xs:List SArg} {K:St → Prop}:WCall P base ⟨d,some (q,want),.inv f bp ty s xs⟩ σ K=gbK (gb (σ.sl q) want) (giC P σ (σ.sl s) (.c (.clo f [] [])) (rcvE σ bp ty (un (σ.sl s)) :: xs.map σ.ev) d K):=by
 apply propext
 constructor
 ·rintro ⟨e,⟨β,hβ,hg0,fn,k1,k2,ins,outs,res,pur,ps,h1,hp,hg,rfl⟩,h2⟩
  obtain ⟨rfl,rfl⟩:=hg (by simp)
  exact ⟨β,hβ,hg0,fn,k1,k2,ins,outs,res,h1,hp,fun h=>h2 fun d' hd _=>h d' hd⟩
 ·rintro ⟨β,hβ,hg0,fn,k1,k2,ins,outs,res,h1,hp,h2⟩
  exact ⟨_,⟨β,hβ,hg0,fn,k1,k2,ins,outs,res,[],[],h1,hp,fun _=>⟨rfl,rfl⟩,rfl⟩,fun h=>h2 fun d' hd=>h d' hd rfl⟩
attribute [simp] WCall_eq WCallG_eq WCall_inv WCallG_inv
def rcvO (bp:Bool) (k t:Nat):Option Obj → AV
 | some (.box _ [c])=>if bp then .c (.ref k t 0) else .c c
 | _=>if bp then .c (.ref k t 0) else .gd false (.c .junk)
@[simp] theorem rcvE_ifc (bp:Bool) (ty ty' k t:Nat):rcvE σ bp ty (.c (.ifc ty' k t))=if ty'=ty ∧ t=σ.tg k then rcvO bp k t (σ.ob k) else .gd false (.c .junk):=by
 simp only [rcvE]
 split
 ·generalize σ.ob k=o
  match o with
  | some (.box t [])=>cases bp <;> rfl
  | some (.box t [c])=>cases bp <;> rfl
  | some (.box t (c :: c' :: l))=>cases bp <;> rfl
  | some (.row ..)=>cases bp <;> rfl
  | some (.mrow ..)=>cases bp <;> rfl
  | some (.cut ..)=>cases bp <;> rfl
  | some (.mob ..)=>cases bp <;> rfl
  | none=>cases bp <;> rfl
 ·rfl
@[simp] theorem rcvO_box (bp:Bool) (k t ty:Nat) (c:Cell):rcvO bp k t (some (.box ty [c]))=if bp then .c (.ref k t 0) else .c c:=rfl
theorem W_gh {Q:SEx → St → Prop} {σ':St} (h:Ghs σ σ') (hq:Q .normal σ'):W P base .gh σ Q:=⟨σ',h,hq⟩
@[congr] theorem ECall_congr {σ σ':St} {fv fv':AV} {xs xs':List AV} {d:Option Nat} {K:St → Prop} (h:σ=σ') (h1:fv=fv') (h2:xs=xs'):ECall P σ fv xs d K=ECall P σ' fv' xs' d K:=by rw [h,h1,h2]
@[congr] theorem EGCall_congr {σ σ':St} {β β':Bool} {fv fv':AV} {xs xs':List AV} {d:Option Nat} {K:St → Prop} (h:σ=σ') (h0:β=β') (h1:fv=fv') (h2:xs=xs'):GCall P σ β fv xs d K=GCall P σ' β' fv' xs' d K:=by rw [h,h0,h1,h2]
@[simp] theorem isCall_call (f:SArg) (xs:List SArg):(SOp.call f xs).isCall=true:=rfl
@[simp] theorem gb_b (b want:Bool):gb (.c (.v (.bool b))) want=some (b == want):=rfl
@[simp] theorem gb_gd (b b' want:Bool):gb (.gd b' (.c (.v (.bool b)))) want=some (b' && (b == want)):=rfl
@[simp] theorem gb_tup (want:Bool):gb (.tup []) want=some false:=rfl
@[congr] theorem WCall_congr {so:SO} {σ σ':St} {K:St → Prop} (h:σ=σ'):WCall P base so σ K=WCall P base so σ' K:=by rw [h]
@[congr] theorem W_congr {sc:SCode} {σ σ':St} {Q:SEx → St → Prop} (h:σ=σ'):W P base sc σ Q=W P base sc σ' Q:=by rw [h]
@[congr] theorem WOps_congr {l:List SO} {σ σ':St} {K:St → Prop} (h:σ=σ'):WOps P base l σ K=WOps P base l σ' K:=by rw [h]
@[congr] theorem W1_congr {so:SO} {σ σ':St} {K:St → Prop} (h:σ=σ'):W1 P base so σ K=W1 P base so σ' K:=by rw [h]
@[congr] theorem WE_congr {o o':Option Eff} {c c':Prop} {K:Eff → Prop} (h:o=o') (h2:c=c'):WE o c K=WE o' c' K:=by rw [h,h2]
@[congr] theorem WG_congr {o o':Option Eff} {c c':Prop} {β β':Bool} {σ σ':St} {d:Option Nat} {K:St → Prop} (h:o=o') (h2:c=c') (h3:β=β') (h4:σ=σ'):WG o c β σ d K=WG o' c' β' σ' d K:=by rw [h,h2,h3,h4]
@[congr] theorem WD_congr {anc:List Nat} {i:Nat} {l:List SO} {σ σ':St} {tr:List TE} {K:St → Prop} (h:σ=σ'):WD P base anc i l σ tr K=WD P base anc i l σ' tr K:=by rw [h]
end Go.Abs

namespace Go.Abs
variable {P:Program} {base:Nat} {σ:St} {key:Nat} {ρ:SArg → AV} {β:Bool}
@[simp] theorem ap_pure (d:Nat) (v:AV):σ.ap (some d) (Eff.pure v)=σ.set d v:=rfl
@[simp] theorem ap_look (d:Nat) (v:AV) (l:List Nat):σ.ap (some d) (Eff.look v l)=σ.set d v:=rfl
@[simp] theorem pure_val (v:AV):(Eff.pure v).val=v:=rfl
@[simp] theorem pure_pur (v:AV):(Eff.pure v).pur=[]:=rfl
@[simp] theorem pure_put (v:AV):(Eff.pure v).put=[]:=rfl
@[simp] theorem pure_rd (v:AV):(Eff.pure v).rd=[]:=rfl
@[simp] theorem look_val (v:AV) (l:List Nat):(Eff.look v l).val=v:=rfl
@[simp] theorem look_pur (v:AV) (l:List Nat):(Eff.look v l).pur=[]:=rfl
@[simp] theorem look_put (v:AV) (l:List Nat):(Eff.look v l).put=[]:=rfl
@[simp] theorem look_rd (v:AV) (l:List Nat):(Eff.look v l).rd=l:=rfl
@[simp] theorem cellsOf_agg (cs:List Cell):cellsOf (.agg cs)=some cs:=rfl
@[simp] theorem cellsOf_v (v:Value):cellsOf (.c (.v v))=some [.v v]:=rfl
@[simp] theorem cellsOf_sl (sz bs:Nat) (es:List (List Cell)):cellsOf (.c (.sl sz bs es))=some [.sl sz bs es]:=rfl
@[simp] theorem cellsOf_cap (sz bs:Nat) (es:List (List Cell)):cellsOf (.c (.cap sz bs es))=some [.cap sz bs es]:=rfl
@[simp] theorem cellsOf_own (k t:Nat):cellsOf (.c (.own k t))=some [.own k t]:=rfl
@[simp] theorem cellsOf_ref (k t off:Nat):cellsOf (.c (.ref k t off))=some [.ref k t off]:=rfl
@[simp] theorem cellsOf_clo (f:Nat) (a b:List (Nat × Nat)):cellsOf (.c (.clo f a b))=some [.clo f a b]:=rfl
@[simp] theorem putC_nil (cs xs:List Cell):putC cs 0 xs=xs ++ cs.drop xs.length:=by simp [putC]
@[simp] theorem putC_succ (c:Cell) (cs xs:List Cell) (n:Nat):putC (c :: cs) (n + 1) xs=c :: putC cs n xs:=by simp [putC,Nat.add_right_comm]
@[simp] theorem putC_1 (c:Cell) (cs xs:List Cell):putC (c :: cs) 1 xs=c :: putC cs 0 xs:=putC_succ c cs xs 0
@[simp] theorem putC_2 (c d:Cell) (cs xs:List Cell):putC (c :: d :: cs) 2 xs=c :: d :: putC cs 0 xs:=by rw [putC_succ c _ xs 1,putC_1]
@[simp] theorem putC_3 (c d e:Cell) (cs xs:List Cell):putC (c :: d :: e :: cs) 3 xs=c :: d :: e :: putC cs 0 xs:=by rw [putC_succ c _ xs 2,putC_2]
@[simp] theorem putC_4 (c d e f:Cell) (cs xs:List Cell):putC (c :: d :: e :: f :: cs) 4 xs=c :: d :: e :: f :: putC cs 0 xs:=by rw [putC_succ c _ xs 3,putC_3]
@[simp] theorem fillC_nil (cs:List Cell):fillC cs []=cs:=rfl
@[simp] theorem fillC_cons (cs xs:List Cell) (off:Nat) (r:List (Nat × List Cell)):fillC cs ((off,xs) :: r)=fillC (putC cs off xs) r:=rfl
@[simp] theorem toD_v (v:Value):toD σ (.v v)=.v v:=rfl
@[simp] theorem toD_sl (sz bs:Nat) (es:List (List Cell)):toD σ (.sl sz bs es)=.sl sz bs es:=rfl
@[simp] theorem toD_cap (sz bs:Nat) (es:List (List Cell)):toD σ (.cap sz bs es)=.sl sz bs es:=rfl
@[simp] theorem toD_ref (k t off:Nat):toD σ (.ref k t off)=.ref k t off:=rfl
@[simp] theorem toD_clo (f:Nat) (a b:List (Nat × Nat)):toD σ (.clo f a b)=.clo f a b:=rfl
def ownD (k t:Nat):Option Obj → Cell
 | some (.row _ sz bs es)=>.sl sz bs es
 | _=>.own k t
@[simp] theorem toD_own (k t:Nat):toD σ (.own k t)=if t=σ.tg k then ownD k t (σ.ob k) else .own k t:=rfl
@[simp] theorem ownD_row (k t ty sz bs:Nat) (es:List (List Cell)):ownD k t (some (.row ty sz bs es))=.sl sz bs es:=rfl
@[simp] theorem ownD_mrow (k t ty sz bs:Nat) (es:List (List Cell)):ownD k t (some (.mrow ty sz bs es))=.own k t:=rfl
@[simp] theorem toD2_c (x:Cell):toD2 σ (.c x)=.c (toD σ x):=rfl
@[simp] theorem toD2_agg (x:List Cell):toD2 σ (.agg x)=.agg (x.map (toD σ)):=rfl
@[simp] theorem toD2_tup (x:List AV):toD2 σ (.tup x)=.tup x:=rfl
@[simp] theorem plain_v (v:Value):Cell.plain (.v v)=.v v:=rfl
@[simp] theorem plain_cap (sz bs:Nat) (es:List (List Cell)):Cell.plain (.cap sz bs es)=.sl sz bs es:=rfl
@[simp] theorem isD_v (v:Value):Cell.isD (.v v)=true:=rfl
@[simp] theorem isD_sl (sz bs:Nat) (es:List (List Cell)):Cell.isD (.sl sz bs es)=true:=rfl
@[simp] theorem ev1_mv (x:SArg):ev1 key ρ σ (.mv x)=some (.pure (un (ρ x))):=rfl
@[simp] theorem cond_mv (x:SArg):cond β ρ σ (.mv x)=gok β (ρ x):=rfl
def pickE (c x y:AV):Option Eff:=match c with
 | .c (.v (.bool t))=>some (.pure (pickv t x y))
 | _=>none
@[simp] theorem ev1_pick (c a b:SArg):ev1 key ρ σ (.pick c a b)=pickE (un (ρ c)) (un (ρ a)) (un (ρ b)):=by
 rfl
@[simp] theorem pickE_b (t:Bool) (x y:AV):pickE (.c (.v (.bool t))) x y=some (.pure (pickv t x y)):=rfl
def pickC (β:Bool) (c x y:AV):Prop:=match c with
 | .c (.v (.bool t))=>gok (β && t) x ∧ gok (β && !t) y
 | _=>True
@[simp] theorem cond_pick (c a b:SArg):cond β ρ σ (.pick c a b)=(gok β (ρ c) ∧ pickC β (un (ρ c)) (ρ a) (ρ b)):=by
 rfl
@[simp] theorem pickC_b (t:Bool) (x y:AV):pickC β (.c (.v (.bool t))) x y=(gok (β && t) x ∧ gok (β && !t) y):=rfl
@[simp] theorem pickv_b (t p q:Bool):pickv t (.c (.v (.bool p))) (.c (.v (.bool q)))=.c (.v (.bool (bif t then p else q))):=rfl
def boxE (key t ty:Nat):Option (List Cell) → Option Eff
 | some cs=>some ⟨.c (.ref key (t + 1) 0),[key],[(key,.box ty cs)],keysCs cs⟩
 | none=>none
@[simp] theorem ev1_box (ty:Nat) (x:SArg):ev1 key ρ σ (.box ty x)=boxE key (σ.tg key) ty (cellsOf (un (ρ x))):=by
 simp only [ev1];unfold boxE;cases cellsOf (un (ρ x)) <;> rfl
@[simp] theorem boxE_some (t ty:Nat) (cs:List Cell):boxE key t ty (some cs)=some ⟨.c (.ref key (t + 1) 0),[key],[(key,.box ty cs)],keysCs cs⟩:=rfl
@[simp] theorem cond_box (ty:Nat) (x:SArg):cond β ρ σ (.box ty x)=gok β (ρ x):=rfl
@[simp] theorem ev1_alloc (ty:Nat) (zs:List Cell):ev1 key ρ σ (.alloc ty zs)=some ⟨.c (.ref key (σ.tg key + 1) 0),[key],[(key,.box ty zs)],[]⟩:=rfl
@[simp] theorem cond_alloc (ty:Nat) (zs:List Cell):cond β ρ σ (.alloc ty zs)=True:=rfl
def buildE (zs:List Cell):Option (List (Nat × List Cell)) → Option Eff
 | some l=>some (.pure (.agg (fillC zs l)))
 | none=>none
@[simp] theorem ev1_build (ty:Nat) (zs:List Cell) (ps:List (Nat × Nat × Nat × SArg)):ev1 key ρ σ (.build ty zs ps)=buildE zs (partCs ρ ps):=by
 simp only [ev1];unfold buildE;cases partCs ρ ps <;> rfl
@[simp] theorem buildE_some (zs:List Cell) (l:List (Nat × List Cell)):buildE zs (some l)=some (.pure (.agg (fillC zs l))):=rfl
def partK (off:Nat):Option (List Cell) → Option (List (Nat × List Cell)) → Option (List (Nat × List Cell))
 | some cs,some l=>some ((off,cs) :: l)
 | _,_=>none
@[simp] theorem partCs_nil:partCs ρ []=some []:=rfl
@[simp] theorem partCs_cons (i off m:Nat) (x:SArg) (r:List (Nat × Nat × Nat × SArg)):partCs ρ ((i,off,m,x) :: r)=partK off (cellsOf (un (ρ x))) (partCs ρ r):=by
 simp only [partCs];unfold partK;cases cellsOf (un (ρ x)) <;> cases partCs ρ r <;> rfl
@[simp] theorem partK_some (off:Nat) (cs:List Cell) (l:List (Nat × List Cell)):partK off (some cs) (some l)=some ((off,cs) :: l):=rfl
def partC1 (zs:List Cell) (off m:Nat):Option (List Cell) → Prop
 | some cs=>cs.length=m ∧ off + m ≤ zs.length
 | none=>True
def partC (β:Bool) (ρ:SArg → AV) (zs:List Cell):List (Nat × Nat × Nat × SArg) → Prop
 | []=>True
 | p :: r=>gok β (ρ p.2.2.2) ∧ partC1 zs p.2.1 p.2.2.1 (cellsOf (un (ρ p.2.2.2))) ∧ partC β ρ zs r
theorem partC_spec {zs:List Cell}:∀ {ps:List (Nat × Nat × Nat × SArg)},partC β ρ zs ps → (∀ p,p ∈ ps → gok β (ρ p.2.2.2)) ∧ ∀ p,p ∈ ps → ∀ cs,cellsOf (un (ρ p.2.2.2))=some cs → cs.length=p.2.2.1 ∧ p.2.1 + p.2.2.1 ≤ zs.length
 | [],_=>⟨by simp,by simp⟩
 | p :: r,h=>by
  obtain ⟨h1,h2,h3⟩:=h
  obtain ⟨h4,h5⟩:=partC_spec h3
  refine ⟨fun q hq=>?_,fun q hq cs hcs=>?_⟩
  ·rcases List.mem_cons.1 hq with rfl | hq
   ·exact h1
   ·exact h4 q hq
  ·rcases List.mem_cons.1 hq with rfl | hq
   ·rw [hcs] at h2;exact h2
   ·exact h5 q hq cs hcs
theorem partC_of {zs:List Cell}:∀ {ps:List (Nat × Nat × Nat × SArg)},(∀ p,p ∈ ps → gok β (ρ p.2.2.2)) → (∀ p,p ∈ ps → ∀ cs,cellsOf (un (ρ p.2.2.2))=some cs → cs.length=p.2.2.1 ∧ p.2.1 + p.2.2.1 ≤ zs.length) → partC β ρ zs ps
 | [],_,_=>trivial
 | p :: r,h1,h2=>by
  refine ⟨h1 p (by simp),?_,partC_of (fun q hq=>h1 q (by simp [hq])) fun q hq=>h2 q (by simp [hq])⟩
  cases hc:cellsOf (un (ρ p.2.2.2)) with
  | none=>trivial
  | some cs=>exact h2 p (by simp) cs hc
@[simp] theorem cond_build (ty:Nat) (zs:List Cell) (ps:List (Nat × Nat × Nat × SArg)):cond β ρ σ (.build ty zs ps)=partC β ρ zs ps:=propext ⟨fun h=>partC_of h.1 h.2,fun h=>partC_spec h⟩
@[simp] theorem partC_nil (zs:List Cell):partC β ρ zs []=True:=rfl
@[simp] theorem partC_cons (zs:List Cell) (i off m:Nat) (x:SArg) (r:List (Nat × Nat × Nat × SArg)):partC β ρ zs ((i,off,m,x) :: r)=(gok β (ρ x) ∧ partC1 zs off m (cellsOf (un (ρ x))) ∧ partC β ρ zs r):=rfl
@[simp] theorem partC1_some (zs cs:List Cell) (off m:Nat):partC1 zs off m (some cs)=(cs.length=m ∧ off + m ≤ zs.length):=rfl
def ld1C (k:Nat):Option Cell → Option Eff
 | some c=>some (.look (.c c) [k])
 | none=>none
def ld1O (k off:Nat):Option Obj → Option Eff
 | some (.box _ cs)=>ld1C k cs[off]?
 | _=>none
def ldnO (k off n:Nat):Option Obj → Option Eff
 | some (.box _ cs)=>if off + n ≤ cs.length then some (.look (.agg ((cs.drop off).take n)) [k]) else none
 | _=>none
@[simp] theorem ev1_ld1 (ty:Nat) (x:SArg):ev1 key ρ σ (.ld1 ty x)=loadAt σ true 0 (un (ρ x)):=rfl
@[simp] theorem ev1_ldn (ty n:Nat) (x:SArg):ev1 key ρ σ (.ldn ty n x)=loadAt σ false n (un (ρ x)):=rfl
@[simp] theorem ev1_ldf (ty:Nat) (x:SArg):ev1 key ρ σ (.ldf ty x)=ldfE (loadAt σ true 0 (un (ρ x))):=rfl
@[simp] theorem cond_ldf (ty:Nat) (x:SArg):cond β ρ σ (.ldf ty x)=gok β (ρ x):=rfl
@[simp] theorem ldfE_look (f:Nat) (rd:List Nat):ldfE (some (.look (.c (.v (.func (.func f) #[] #[]))) rd))=some (.look (.c (.clo f [] [])) rd):=rfl
@[simp] theorem ldfE_pure (f:Nat):ldfE (some (.pure (.c (.v (.func (.func f) #[] #[])))))=some (.pure (.c (.clo f [] []))):=rfl
@[simp] theorem cond_ld1 (ty:Nat) (x:SArg):cond β ρ σ (.ld1 ty x)=gok β (ρ x):=rfl
@[simp] theorem cond_ldn (ty n:Nat) (x:SArg):cond β ρ σ (.ldn ty n x)=gok β (ρ x):=rfl
@[simp] theorem ld1C_some (k:Nat) (c:Cell):ld1C k (some c)=some (.look (.c c) [k]):=rfl
@[simp] theorem ld1O_box (k off ty:Nat) (cs:List Cell):ld1O k off (some (.box ty cs))=ld1C k cs[off]?:=rfl
@[simp] theorem ldnO_box (k off n ty:Nat) (cs:List Cell):ldnO k off n (some (.box ty cs))=if off + n ≤ cs.length then some (.look (.agg ((cs.drop off).take n)) [k]) else none:=rfl
@[simp] theorem loadAt_ref1 (m k t off:Nat):loadAt σ true m (.c (.ref k t off))=if t=σ.tg k then ld1O k off (σ.ob k) else none:=by
 simp only [loadAt];split
 ·unfold ld1O;split
  ·rename_i e;rw [e];simp only [if_true];unfold ld1C;split <;> simp_all
  ·rename_i h;split
   ·rename_i e;exact absurd e (h _ _)
   ·rfl
 ·rfl
@[simp] theorem loadAt_refn (m k t off:Nat):loadAt σ false m (.c (.ref k t off))=if t=σ.tg k then ldnO k off m (σ.ob k) else none:=by
 simp only [loadAt];split
 ·unfold ldnO;split
  ·rename_i e;rw [e];simp
  ·rename_i h;split
   ·rename_i e;exact absurd e (h _ _)
   ·rfl
 ·rfl
def ld1P:Option Cell → Option Eff
 | some c=>some (.pure (.c c))
 | none=>none
@[simp] theorem ld1P_some (c:Cell):ld1P (some c)=some (.pure (.c c)):=rfl
@[simp] theorem loadAt_elp1 (m j:Nat) (cs:List Cell):loadAt σ true m (.c (.elp cs j))=ld1P cs[j]?:=by
 simp only [loadAt,if_true];unfold ld1P;split <;> simp_all
@[simp] theorem loadAt_elpn (m j:Nat) (cs:List Cell):loadAt σ false m (.c (.elp cs j))=if j + m ≤ cs.length then some (.pure (.agg ((cs.drop j).take m))) else none:=by
 simp [loadAt]
def elwO (sz i:Nat):Option Obj → Option (List Cell)
 | some (.mrow _ sz' _ es)=>if sz=sz' then es[i]? else none
 | _=>none
def ld1W (k j:Nat):Option (List Cell) → Option Eff
 | some cs=>ld1C k cs[j]?
 | none=>none
def ldnW (k j n:Nat):Option (List Cell) → Option Eff
 | some cs=>if j + n ≤ cs.length then some (.look (.agg ((cs.drop j).take n)) [k]) else none
 | none=>none
@[simp] theorem elwO_mrow (sz i ty sz' bs:Nat) (es:List (List Cell)):elwO sz i (some (.mrow ty sz' bs es))=if sz=sz' then es[i]? else none:=rfl
@[simp] theorem ld1W_some (k j:Nat) (cs:List Cell):ld1W k j (some cs)=ld1C k cs[j]?:=rfl
@[simp] theorem ldnW_some (k j n:Nat) (cs:List Cell):ldnW k j n (some cs)=if j + n ≤ cs.length then some (.look (.agg ((cs.drop j).take n)) [k]) else none:=rfl
@[simp] theorem loadAt_elw1 (m k t sz i j:Nat):loadAt σ true m (.c (.elw k t sz i j))=if t=σ.tg k then ld1W k j (elwO sz i (σ.ob k)) else none:=by
 simp only [loadAt];split
 ·unfold elwO;split
  ·rename_i e;rw [e];simp only [if_true]
   split
   ·split
    ·rename_i e1;simp only [e1,ld1W];unfold ld1C;split <;> simp_all
    ·rename_i e1;simp only [e1,ld1W]
   ·rfl
  ·rename_i h;split
   ·rename_i e;exact absurd e (h _ _ _ _)
   ·rfl
 ·rfl
@[simp] theorem loadAt_elwn (m k t sz i j:Nat):loadAt σ false m (.c (.elw k t sz i j))=if t=σ.tg k then ldnW k j m (elwO sz i (σ.ob k)) else none:=by
 simp only [loadAt];split
 ·unfold elwO;split
  ·rename_i e;rw [e];simp only [Bool.false_eq_true,if_false]
   split
   ·split
    ·rename_i e1;simp only [e1,ldnW]
    ·rename_i e1;simp only [e1,ldnW]
   ·rfl
  ·rename_i h;split
   ·rename_i e;exact absurd e (h _ _ _ _)
   ·rfl
 ·rfl
def stE (σ:St) (n:Nat) (x:AV):Option (List Cell) → Option Eff
 | some cs=>storeAt σ n cs x
 | none=>none
@[simp] theorem stE_some (n:Nat) (x:AV) (cs:List Cell):stE σ n x (some cs)=storeAt σ n cs x:=rfl
@[simp] theorem ev1_st1 (ty:Nat) (x v:SArg):ev1 key ρ σ (.st1 ty x v)=stE σ 1 (un (ρ x)) (cellsOf (un (ρ v))):=by
 simp only [ev1];unfold stE;cases cellsOf (un (ρ v)) <;> rfl
@[simp] theorem ev1_stn (ty n:Nat) (x v:SArg):ev1 key ρ σ (.stn ty n x v)=stE σ n (un (ρ x)) (cellsOf (un (ρ v))):=by
 simp only [ev1];unfold stE;cases cellsOf (un (ρ v)) <;> rfl
@[simp] theorem cond_st1 (ty:Nat) (x v:SArg):cond β ρ σ (.st1 ty x v)=(gok β (ρ x) ∧ gok β (ρ v)):=rfl
@[simp] theorem cond_stn (ty n:Nat) (x v:SArg):cond β ρ σ (.stn ty n x v)=(gok β (ρ x) ∧ gok β (ρ v)):=rfl
def stO (k off n:Nat) (xs:List Cell):Option Obj → Option Eff
 | some (.box ty cs)=>if xs.length=n ∧ off + n ≤ cs.length then some ⟨.tup [],[],[(k,.box ty (putC cs off xs))],k :: keysCs xs⟩ else none
 | _=>none
@[simp] theorem stO_box (k off n ty:Nat) (xs cs:List Cell):stO k off n xs (some (.box ty cs))=if xs.length=n ∧ off + n ≤ cs.length then some ⟨.tup [],[],[(k,.box ty (putC cs off xs))],k :: keysCs xs⟩ else none:=rfl
@[simp] theorem storeAt_ref (n k t off:Nat) (xs:List Cell):storeAt σ n xs (.c (.ref k t off))=if t=σ.tg k then stO k off n xs (σ.ob k) else none:=by
 simp only [storeAt];split
 ·unfold stO;split
  ·rename_i e;rw [e]
  ·rename_i h;split
   ·rename_i e;exact absurd e (h _ _)
   ·rfl
 ·rfl
def stW2 (k ty sz bs i j n:Nat) (xs xd:List Cell) (es:List (List Cell)):Option (List Cell) → Option Eff
 | some cs=>if j + n ≤ cs.length then some ⟨.tup [],[],[(k,.mrow ty sz bs (es.set i (putC cs j xd)))],k :: keysCs xs⟩ else none
 | none=>none
def stW (k sz i j n:Nat) (xs xd:List Cell):Option Obj → Option Eff
 | some (.mrow ty sz' bs es)=>if sz=sz' ∧ xs.length=n ∧ xd.all Cell.isD=true then stW2 k ty sz bs i j n xs xd es es[i]? else none
 | _=>none
@[simp] theorem stW2_some (k ty sz bs i j n:Nat) (xs xd cs:List Cell) (es:List (List Cell)):stW2 k ty sz bs i j n xs xd es (some cs)=if j + n ≤ cs.length then some ⟨.tup [],[],[(k,.mrow ty sz bs (es.set i (putC cs j xd)))],k :: keysCs xs⟩ else none:=rfl
@[simp] theorem stW_mrow (k sz i j n ty sz' bs:Nat) (xs xd:List Cell) (es:List (List Cell)):stW k sz i j n xs xd (some (.mrow ty sz' bs es))=if sz=sz' ∧ xs.length=n ∧ xd.all Cell.isD=true then stW2 k ty sz bs i j n xs xd es es[i]? else none:=rfl
@[simp] theorem storeAt_elw (n k t sz i j:Nat) (xs:List Cell):storeAt σ n xs (.c (.elw k t sz i j))=if t=σ.tg k then stW k sz i j n xs (xs.map (toD σ)) (σ.ob k) else none:=by
 simp only [storeAt];split
 ·unfold stW;split
  ·rename_i e;rw [e];dsimp only
   split
   ·unfold stW2;split <;> simp_all
   ·rfl
  ·rename_i h;split
   ·rename_i e;exact absurd e (h _ _ _ _)
   ·rfl
 ·rfl
def nilE (σ:St):AV → Option Eff
 | .c (.ref k t off)=>if t=σ.tg k then some (.look (.c (.ref k t off)) [k]) else none
 | .c (.elp cs j)=>some (.pure (.c (.elp cs j)))
 | _=>none
@[simp] theorem ev1_nilc (x:SArg):ev1 key ρ σ (.nilc x)=nilE σ (un (ρ x)):=rfl
@[simp] theorem nilE_ref (k t off:Nat):nilE σ (.c (.ref k t off))=if t=σ.tg k then some (.look (.c (.ref k t off)) [k]) else none:=rfl
@[simp] theorem nilE_elp (cs:List Cell) (j:Nat):nilE σ (.c (.elp cs j))=some (.pure (.c (.elp cs j))):=rfl
@[simp] theorem cond_nilc (x:SArg):cond β ρ σ (.nilc x)=gok β (ρ x):=rfl
def fadE (σ:St) (off:Nat):AV → Option Eff
 | .c (.ref k t o)=>if t=σ.tg k then some (.look (.c (.ref k t (o + off))) [k]) else none
 | .c (.elp cs j)=>some (.pure (.c (.elp cs (j + off))))
 | .c (.elw k t sz i j)=>if t=σ.tg k then some (.look (.c (.elw k t sz i (j + off))) [k]) else none
 | _=>none
@[simp] theorem ev1_fad (ty i off:Nat) (x:SArg):ev1 key ρ σ (.fad ty i off x)=fadE σ off (un (ρ x)):=rfl
@[simp] theorem fadE_ref (off k t o:Nat):fadE σ off (.c (.ref k t o))=if t=σ.tg k then some (.look (.c (.ref k t (o + off))) [k]) else none:=rfl
@[simp] theorem fadE_elp (off j:Nat) (cs:List Cell):fadE σ off (.c (.elp cs j))=some (.pure (.c (.elp cs (j + off)))):=rfl
@[simp] theorem fadE_elw (off k t sz i j:Nat):fadE σ off (.c (.elw k t sz i j))=if t=σ.tg k then some (.look (.c (.elw k t sz i (j + off))) [k]) else none:=rfl
@[simp] theorem cond_fad (ty i off:Nat) (x:SArg):cond β ρ σ (.fad ty i off x)=gok β (ρ x):=rfl
def fld1E (off:Nat):AV → Option Eff
 | .agg cs=>match cs[off]? with
  | some c=>some (.pure (.c c))
  | none=>none
 | _=>none
def fldnE (off n:Nat):AV → Option Eff
 | .agg cs=>if off + n ≤ cs.length then some (.pure (.agg ((cs.drop off).take n))) else none
 | _=>none
@[simp] theorem ev1_fld1 (ty i off:Nat) (x:SArg):ev1 key ρ σ (.fld1 ty i off x)=fld1E off (un (ρ x)):=rfl
@[simp] theorem ev1_fldn (ty i off n:Nat) (x:SArg):ev1 key ρ σ (.fldn ty i off n x)=fldnE off n (un (ρ x)):=rfl
@[simp] theorem fld1E_agg (off:Nat) (cs:List Cell):fld1E off (.agg cs)=ld1P cs[off]?:=by unfold fld1E ld1P;split <;> simp_all
@[simp] theorem fldnE_agg (off n:Nat) (cs:List Cell):fldnE off n (.agg cs)=if off + n ≤ cs.length then some (.pure (.agg ((cs.drop off).take n))) else none:=rfl
@[simp] theorem cond_fld1 (ty i off:Nat) (x:SArg):cond β ρ σ (.fld1 ty i off x)=gok β (ρ x):=rfl
@[simp] theorem cond_fldn (ty i off n:Nat) (x:SArg):cond β ρ σ (.fldn ty i off n x)=gok β (ρ x):=rfl
def iadO (sz n k t:Nat):Option Obj → Option Eff
 | some (.mrow _ sz' _ _)=>if sz=sz' then some (.look (.c (.elw k t sz n 0)) [k]) else none
 | some (.row _ sz' _ es)=>if sz=sz' then some (.look (.c (.elp (es.getD n []) 0)) [k]) else none
 | some (.cut _ sz' _ es)=>if sz=sz' then some (.look (.c (.elp (es.getD n []) 0)) [k]) else none
 | _=>none
def iadE (σ:St) (sz:Nat):AV → AV → Option Eff
 | .c (.own k t),.c (.v (.int .i64 n))=>if t=σ.tg k then iadO sz n.toNat k t (σ.ob k) else none
 | .c (.sl sz' _ es),.c (.v (.int .i64 n))=>if sz=sz' ∨ es=[] then some (.pure (.c (.elp (es.getD n.toNat []) 0))) else none
 | .c (.cap sz' _ es),.c (.v (.int .i64 n))=>if sz=sz' ∨ es=[] then some (.pure (.c (.elp (es.getD n.toNat []) 0))) else none
 | .c (.sob k t _),.c (.v (.int .i64 n))=>if t=σ.tg k ∧ sz=1 then some (.look (.c (.ref k t n.toNat)) [k]) else none
 | _,_=>none
theorem intOf_some {x:AV} {n:Int} (h:intOf? x=some n):x=.c (.v (.int .i64 n)):=by
 unfold intOf? at h;split at h
 ·cases h;rfl
 ·cases h
theorem iad_own (ty sz k t:Nat) (x i:SArg) (n:Int) (hx:un (ρ x)=.c (.own k t)) (hi:un (ρ i)=.c (.v (.int .i64 n))):ev1 key ρ σ (.iad ty sz x i)=if t=σ.tg k then iadO sz n.toNat k t (σ.ob k) else none:=by
 simp only [ev1,hx,hi,intOf?];split
 ·unfold iadO;split <;> simp_all
 ·rfl
@[simp] theorem ev1_iad (ty sz:Nat) (x i:SArg):ev1 key ρ σ (.iad ty sz x i)=iadE σ sz (un (ρ x)) (un (ρ i)):=by
 cases hi:intOf? (un (ρ i)) with
 | none=>
  have h1:ev1 key ρ σ (.iad ty sz x i)=none:=by simp only [ev1,hi]
  rw [h1];unfold iadE;split
  ·rename_i e;rw [e] at hi;cases hi
  ·rename_i e;rw [e] at hi;cases hi
  ·rename_i e;rw [e] at hi;cases hi
  ·rename_i e;rw [e] at hi;cases hi
  ·rfl
 | some n=>
  have he:=intOf_some hi
  unfold iadE;split
  ·rename_i k t n' e1 e2
   exact iad_own ty sz k t x i n' e1 e2
  ·rename_i e1 e2;simp only [ev1,e1,e2,intOf?]
  ·rename_i e1 e2;simp only [ev1,e1,e2,intOf?]
  ·rename_i e1 e2;simp only [ev1,e1,e2,intOf?]
  ·rename_i h1 h2 h3 h4
   rw [he] at h1 h2 h3 h4
   simp only [ev1,hi]
   split
   ·rename_i e;exact absurd rfl (h1 _ _ _ e)
   ·rename_i e;exact absurd rfl (h2 _ _ _ _ e)
   ·rename_i e;exact absurd rfl (h3 _ _ _ _ e)
   ·rename_i e;exact absurd rfl (h4 _ _ _ _ e)
   ·rfl
@[simp] theorem iadE_own (sz k t:Nat) (n:Int):iadE σ sz (.c (.own k t)) (.c (.v (.int .i64 n)))=if t=σ.tg k then iadO sz n.toNat k t (σ.ob k) else none:=rfl
@[simp] theorem iadE_sl (sz sz' bs:Nat) (es:List (List Cell)) (n:Int):iadE σ sz (.c (.sl sz' bs es)) (.c (.v (.int .i64 n)))=if sz=sz' ∨ es=[] then some (.pure (.c (.elp (es.getD n.toNat []) 0))) else none:=rfl
@[simp] theorem iadE_cap (sz sz' bs:Nat) (es:List (List Cell)) (n:Int):iadE σ sz (.c (.cap sz' bs es)) (.c (.v (.int .i64 n)))=if sz=sz' ∨ es=[] then some (.pure (.c (.elp (es.getD n.toNat []) 0))) else none:=rfl
@[simp] theorem iadE_sob (sz k t m:Nat) (n:Int):iadE σ sz (.c (.sob k t m)) (.c (.v (.int .i64 n)))=if t=σ.tg k ∧ sz=1 then some (.look (.c (.ref k t n.toNat)) [k]) else none:=rfl
@[simp] theorem iadO_mrow (sz n k t ty sz' bs:Nat) (es:List (List Cell)):iadO sz n k t (some (.mrow ty sz' bs es))=if sz=sz' then some (.look (.c (.elw k t sz n 0)) [k]) else none:=rfl
@[simp] theorem iadO_row (sz n k t ty sz' bs:Nat) (es:List (List Cell)):iadO sz n k t (some (.row ty sz' bs es))=if sz=sz' then some (.look (.c (.elp (es.getD n []) 0)) [k]) else none:=rfl
@[simp] theorem iadO_cut (sz n k t ty sz' bs:Nat) (es:List (List Cell)):iadO sz n k t (some (.cut ty sz' bs es))=if sz=sz' then some (.look (.c (.elp (es.getD n []) 0)) [k]) else none:=rfl
def inO (n:Int):Option Obj → Prop
 | some (.mrow _ _ _ es)=>n < es.length
 | some (.row _ _ _ es)=>n < es.length
 | some (.cut _ _ _ es)=>n < es.length
 | _=>True
def inE (σ:St) (n:Int):AV → Prop
 | .c (.own k _)=>inO n (σ.ob k)
 | .c (.sl _ _ es)=>n < es.length
 | .c (.cap _ _ es)=>n < es.length
 | .c (.sob _ _ m)=>n < m
 | _=>True
@[simp] theorem inE_sob (n:Int) (k t m:Nat):inE σ n (.c (.sob k t m))=(n < m):=rfl
@[simp] theorem inE_own (n:Int) (k t:Nat):inE σ n (.c (.own k t))=inO n (σ.ob k):=rfl
@[simp] theorem inE_sl (n:Int) (sz bs:Nat) (es:List (List Cell)):inE σ n (.c (.sl sz bs es))=(n < es.length):=rfl
@[simp] theorem inE_cap (n:Int) (sz bs:Nat) (es:List (List Cell)):inE σ n (.c (.cap sz bs es))=(n < es.length):=rfl
@[simp] theorem inO_mrow (n:Int) (ty sz bs:Nat) (es:List (List Cell)):inO n (some (.mrow ty sz bs es))=(n < es.length):=rfl
@[simp] theorem inO_cut (n:Int) (ty sz bs:Nat) (es:List (List Cell)):inO n (some (.cut ty sz bs es))=(n < es.length):=rfl
@[simp] theorem inO_row (n:Int) (ty sz bs:Nat) (es:List (List Cell)):inO n (some (.row ty sz bs es))=(n < es.length):=rfl
def iadC (σ:St) (x:AV):Option Int → Prop
 | some n=>0 ≤ n ∧ inE σ n x
 | none=>True
@[simp] theorem iadC_some (x:AV) (n:Int):iadC σ x (some n)=(0 ≤ n ∧ inE σ n x):=rfl
@[simp] theorem intOf_v (n:Int):intOf? (.c (.v (.int .i64 n)))=some n:=rfl
@[simp] theorem cond_iad (ty sz:Nat) (x i:SArg):cond β ρ σ (.iad ty sz x i)=(gok β (ρ x) ∧ gok β (ρ i) ∧ (β=true → iadC σ (un (ρ x)) (intOf? (un (ρ i))))):=by
 have h:cond β ρ σ (.iad ty sz x i)=(gok β (ρ x) ∧ gok β (ρ i) ∧ (β=true → ∀ n,intOf? (un (ρ i))=some n → 0 ≤ n ∧ inE σ n (un (ρ x)))):=rfl
 rw [h]
 unfold iadC
 cases intOf? (un (ρ i)) <;> simp
def beqE (neg:Bool):AV → AV → Option Eff
 | .c (.v (.bool a)),.c (.v (.bool b))=>some (.pure (.c (.v (.bool (if neg then a != b else a == b)))))
 | _,_=>none
@[simp] theorem ev1_beq (neg:Bool) (ty:Nat) (x y:SArg):ev1 key ρ σ (.beq neg ty x y)=beqE neg (un (ρ x)) (un (ρ y)):=rfl
@[simp] theorem beqE_f (a b:Bool):beqE false (.c (.v (.bool a))) (.c (.v (.bool b)))=some (.pure (.c (.v (.bool (a == b))))):=rfl
@[simp] theorem beqE_t (a b:Bool):beqE true (.c (.v (.bool a))) (.c (.v (.bool b)))=some (.pure (.c (.v (.bool (a != b))))):=rfl
def aeqE (neg:Bool):AV → AV → Option Eff
 | .agg [.v (.int k a),.v (.int k1 b)],.agg [.v (.int k2 c),.v (.int k3 d)]=>if k=k2 ∧ k1=k3 then some (.pure (.c (.v (.bool (if neg then !(a == c && b == d) else (a == c && b == d)))))) else none
 | _,_=>none
@[simp] theorem ev1_aeq (neg:Bool) (ty:Nat) (x y:SArg):ev1 key ρ σ (.aeq neg ty x y)=aeqE neg (un (ρ x)) (un (ρ y)):=rfl
@[simp] theorem aeqE_i (neg:Bool) (k k1:IntKind) (a b c d:Int):aeqE neg (.agg [.v (.int k a),.v (.int k1 b)]) (.agg [.v (.int k c),.v (.int k1 d)])=some (.pure (.c (.v (.bool (if neg then !(a == c && b == d) else (a == c && b == d)))))):=by simp [aeqE]
@[simp] theorem cond_aeq (neg:Bool) (ty:Nat) (x y:SArg):cond β ρ σ (.aeq neg ty x y)=(gok β (ρ x) ∧ gok β (ρ y)):=rfl
@[simp] theorem cond_beq (neg:Bool) (ty:Nat) (x y:SArg):cond β ρ σ (.beq neg ty x y)=(gok β (ρ x) ∧ gok β (ρ y)):=rfl
def binK:Option Value → Option Eff
 | some v=>some (.pure (.c (.v v)))
 | none=>none
@[simp] theorem binK_some (v:Value):binK (some v)=some (.pure (.c (.v v))):=rfl
def binE (op:BinOp):AV → AV → Option Eff
 | .c (.v a),.c (.v b)=>binK (binV op a b)
 | _,_=>none
@[simp] theorem ev1_bin (op:BinOp) (x y:SArg):ev1 key ρ σ (.bin op x y)=binE op (un (ρ x)) (un (ρ y)):=by
 simp only [ev1];unfold binE;split <;> rename_i e1 e2
 ·rw [e1,e2];dsimp only;unfold binK;split <;> simp_all
 ·split
  ·rename_i e3 e4;exact absurd e4 (e2 _ _ e3)
  ·rfl
@[simp] theorem binE_vv (op:BinOp) (a b:Value):binE op (.c (.v a)) (.c (.v b))=binK (binV op a b):=rfl
@[simp] theorem binV_add (k:IntKind) (a b:Int):binV .add (.int k a) (.int k b)=some (.int k (k.wrap (a + b))):=by simp [binV]
@[simp] theorem binV_sub (k:IntKind) (a b:Int):binV .sub (.int k a) (.int k b)=some (.int k (k.wrap (a - b))):=by simp [binV]
@[simp] theorem binV_mul (k:IntKind) (a b:Int):binV .mul (.int k a) (.int k b)=some (.int k (k.wrap (a * b))):=by simp [binV]
@[simp] theorem binV_quo (k:IntKind) (a b:Int):binV .quo (.int k a) (.int k b)=some (.int k (k.wrap (a.tdiv b))):=by simp [binV]
@[simp] theorem binV_rem (k:IntKind) (a b:Int):binV .rem (.int k a) (.int k b)=some (.int k (a.tmod b)):=by simp [binV]
@[simp] theorem binV_eql (k:IntKind) (a b:Int):binV .eql (.int k a) (.int k b)=some (.bool (decide (a=b))):=by simp [binV];rfl
@[simp] theorem binV_neq (k:IntKind) (a b:Int):binV .neq (.int k a) (.int k b)=some (.bool (!decide (a=b))):=by simp [binV];rfl
@[simp] theorem binV_lss (k:IntKind) (a b:Int):binV .lss (.int k a) (.int k b)=some (.bool (decide (a < b))):=by simp [binV]
@[simp] theorem binV_leq (k:IntKind) (a b:Int):binV .leq (.int k a) (.int k b)=some (.bool (decide (a ≤ b))):=by simp [binV]
@[simp] theorem binV_gtr (k:IntKind) (a b:Int):binV .gtr (.int k a) (.int k b)=some (.bool (decide (b < a))):=by simp [binV]
@[simp] theorem binV_geq (k:IntKind) (a b:Int):binV .geq (.int k a) (.int k b)=some (.bool (decide (b ≤ a))):=by simp [binV]
def divC (β:Bool) (op:BinOp) (y:AV):Prop:=match op,y with
 | .quo,.c (.v (.int _ b))=>β=true → b ≠ 0
 | .rem,.c (.v (.int _ b))=>β=true → b ≠ 0
 | _,_=>True
@[simp] theorem cond_bin (op:BinOp) (x y:SArg):cond β ρ σ (.bin op x y)=(gok β (ρ x) ∧ gok β (ρ y) ∧ divC β op (un (ρ y))):=rfl
@[simp] theorem divC_add (y:AV):divC β .add y=True:=rfl
@[simp] theorem divC_sub (y:AV):divC β .sub y=True:=rfl
@[simp] theorem divC_mul (y:AV):divC β .mul y=True:=rfl
@[simp] theorem divC_eql (y:AV):divC β .eql y=True:=rfl
@[simp] theorem divC_neq (y:AV):divC β .neq y=True:=rfl
@[simp] theorem divC_lss (y:AV):divC β .lss y=True:=rfl
@[simp] theorem divC_leq (y:AV):divC β .leq y=True:=rfl
@[simp] theorem divC_gtr (y:AV):divC β .gtr y=True:=rfl
@[simp] theorem divC_geq (y:AV):divC β .geq y=True:=rfl
@[simp] theorem divC_quo (k:IntKind) (b:Int):divC β .quo (.c (.v (.int k b)))=(β=true → b ≠ 0):=rfl
@[simp] theorem divC_rem (k:IntKind) (b:Int):divC β .rem (.c (.v (.int k b)))=(β=true → b ≠ 0):=rfl
def notE:AV → Option Eff
 | .c (.v (.bool b))=>some (.pure (.c (.v (.bool (!b)))))
 | _=>none
@[simp] theorem ev1_not (x:SArg):ev1 key ρ σ (.not x)=notE (un (ρ x)):=rfl
@[simp] theorem notE_b (b:Bool):notE (.c (.v (.bool b)))=some (.pure (.c (.v (.bool (!b))))):=rfl
@[simp] theorem cond_not (x:SArg):cond β ρ σ (.not x)=gok β (ρ x):=rfl
def negE:AV → Option Eff
 | .c (.v (.int k n))=>some (.pure (.c (.v (.int k (k.wrap (0 - n))))))
 | _=>none
@[simp] theorem ev1_neg (x:SArg):ev1 key ρ σ (.neg x)=negE (un (ρ x)):=rfl
@[simp] theorem negE_i (k:IntKind) (n:Int):negE (.c (.v (.int k n)))=some (.pure (.c (.v (.int k (k.wrap (0 - n)))))):=rfl
@[simp] theorem cond_neg (x:SArg):cond β ρ σ (.neg x)=gok β (ρ x):=rfl
def convE (k:IntKind):AV → Option Eff
 | .c (.v (.int _ n))=>some (.pure (.c (.v (.int k (k.wrap n)))))
 | _=>none
@[simp] theorem ev1_conv (t u:Nat) (k:IntKind) (x:SArg):ev1 key ρ σ (.conv t u k x)=convE k (un (ρ x)):=rfl
@[simp] theorem convE_i (k k':IntKind) (n:Int):convE k (.c (.v (.int k' n)))=some (.pure (.c (.v (.int k (k.wrap n))))):=rfl
@[simp] theorem cond_conv (t u:Nat) (k:IntKind) (x:SArg):cond β ρ σ (.conv t u k x)=gok β (ρ x):=rfl
@[simp] theorem ev1_best (mx:Bool) (x:SArg) (xs:List SArg):ev1 key ρ σ (.best mx (x :: xs))=(match un (ρ x) with
   | .c (.v (.int k a))=>match bestL mx k a (xs.map ρ) with
    | some m=>some (.pure (.c (.v (.int k m))))
    | none=>none
   | _=>none):=rfl
@[simp] theorem cond_best (mx:Bool) (xs:List SArg):cond β ρ σ (.best mx xs)=∀ x,x ∈ xs → gok β (ρ x):=rfl
def mkK (f:Nat):Option (List (Nat × Nat)) → Option (List (Nat × Nat)) → Option Eff
 | some a,some b=>some (.pure (.c (.clo f a b)))
 | _,_=>none
@[simp] theorem mkK_some (f:Nat) (a b:List (Nat × Nat)):mkK f (some a) (some b)=some (.pure (.c (.clo f a b))):=rfl
@[simp] theorem ev1_mkfn (f:Nat) (xs ys:List SArg):ev1 key ρ σ (.mkfn f xs ys)=mkK f (refKeys (xs.map ρ)) (refKeys (ys.map ρ)):=by
 simp only [ev1];unfold mkK;split <;> simp_all
@[simp] theorem refKeys_nil:refKeys []=some []:=rfl
def refKK:Option (Nat × Nat) → Option (List (Nat × Nat)) → Option (List (Nat × Nat))
 | some k,some l=>some (k :: l)
 | _,_=>none
@[simp] theorem refKK_some (k:Nat × Nat) (l:List (Nat × Nat)):refKK (some k) (some l)=some (k :: l):=rfl
@[simp] theorem refKeys_cons (x:AV) (r:List AV):refKeys (x :: r)=refKK (refKey (un x)) (refKeys r):=by simp only [refKeys];unfold refKK;split <;> simp_all
@[simp] theorem refKey_ref (k t:Nat):refKey (.c (.ref k t 0))=some (k,t):=rfl
@[simp] theorem cond_mkfn (f:Nat) (xs ys:List SArg):cond β ρ σ (.mkfn f xs ys)=((∀ x,x ∈ xs → gok β (ρ x)) ∧ ∀ x,x ∈ ys → gok β (ρ x)):=rfl
def extE (i:Nat):AV → Option Eff
 | .tup l=>match l[i]? with
  | some x=>some (.pure x)
  | none=>none
 | _=>none
@[simp] theorem ev1_ext (x:SArg) (i:Nat):ev1 key ρ σ (.ext x i)=extE i (un (ρ x)):=rfl
@[simp] theorem extE_0 (x:AV) (l:List AV):extE 0 (.tup (x :: l))=some (.pure x):=rfl
@[simp] theorem extE_1 (x y:AV) (l:List AV):extE 1 (.tup (x :: y :: l))=some (.pure y):=rfl
@[simp] theorem extE_2 (x y z:AV) (l:List AV):extE 2 (.tup (x :: y :: z :: l))=some (.pure z):=rfl
@[simp] theorem extE_3 (x y z u:AV) (l:List AV):extE 3 (.tup (x :: y :: z :: u :: l))=some (.pure u):=rfl
@[simp] theorem cond_ext (x:SArg) (i:Nat):cond β ρ σ (.ext x i)=gok β (ρ x):=rfl
@[simp] theorem ev1_mkmap (one:Bool):ev1 key ρ σ (.mkmap one)=some ⟨.c (.mp key (σ.tg key + 1)),[key],[(key,.mob one [])],[]⟩:=rfl
@[simp] theorem cond_mkmap (one:Bool):cond β ρ σ (.mkmap one)=True:=rfl
def msetC (σ:St) (one:Bool) (n:Int) (m:AV):Option (List Cell) → Option Eff
 | some cs=>msetAt σ one n cs m
 | none=>none
def msetK (σ:St) (one:Bool) (m v:AV):Option Int → Option Eff
 | some n=>msetC σ one n m (mcells one v)
 | none=>none
@[simp] theorem ev1_mset (one:Bool) (m k v:SArg):ev1 key ρ σ (.mset one m k v)=msetK σ one (un (ρ m)) (un (ρ v)) (intOf? (un (ρ k))):=by
 simp only [ev1,msetK]
 split <;> simp_all [msetC]
 split <;> simp_all
@[simp] theorem cond_mset (one:Bool) (m k v:SArg):cond β ρ σ (.mset one m k v)=(gok β (ρ m) ∧ gok β (ρ k) ∧ gok β (ρ v)):=rfl
@[simp] theorem msetK_some (one:Bool) (m v:AV) (n:Int):msetK σ one m v (some n)=msetC σ one n m (mcells one v):=rfl
@[simp] theorem msetC_some (one:Bool) (n:Int) (m:AV) (cs:List Cell):msetC σ one n m (some cs)=msetAt σ one n cs m:=rfl
@[simp] theorem mcells_v (x:Value):mcells true (.c (.v x))=some [.v x]:=rfl
@[simp] theorem mcells_agg (cs:List Cell):mcells false (.agg cs)=some cs:=rfl
def msetO (k:Nat) (one:Bool) (n:Int) (cs xs:List Cell):Option Obj → Option Eff
 | some (.mob one' es)=>if one'=one ∧ xs.all Cell.isD=true then some ⟨.tup [],[],[(k,.mob one (msetL es n xs))],k :: keysCs cs⟩ else none
 | _=>none
@[simp] theorem msetAt_mp (one:Bool) (n:Int) (cs:List Cell) (k t:Nat):msetAt σ one n cs (.c (.mp k t))=if t=σ.tg k then msetO k one n cs (cs.map (toD σ)) (σ.ob k) else none:=by
 simp only [msetAt]
 split
 ·cases σ.ob k with
  | none=>rfl
  | some q=>cases q <;> rfl
 ·rfl
@[simp] theorem msetO_some (k:Nat) (one one':Bool) (n:Int) (cs xs:List Cell) (es:List (Int × List Cell)):msetO k one n cs xs (some (.mob one' es))=if one'=one ∧ xs.all Cell.isD=true then some ⟨.tup [],[],[(k,.mob one (msetL es n xs))],k :: keysCs cs⟩ else none:=rfl
def mgetK (σ:St) (one ok:Bool) (zs:List Cell) (m:AV):Option Int → Option Eff
 | some n=>mgetAt σ one ok zs n m
 | none=>none
@[simp] theorem ev1_mget (one ok:Bool) (zs:List Cell) (m k:SArg):ev1 key ρ σ (.mget one ok zs m k)=mgetK σ one ok zs (un (ρ m)) (intOf? (un (ρ k))):=by
 simp only [ev1,mgetK]
 split <;> simp_all
@[simp] theorem cond_mget (one ok:Bool) (zs:List Cell) (m k:SArg):cond β ρ σ (.mget one ok zs m k)=(gok β (ρ m) ∧ gok β (ρ k)):=rfl
@[simp] theorem mgetK_some (one ok:Bool) (zs:List Cell) (m:AV) (n:Int):mgetK σ one ok zs m (some n)=mgetAt σ one ok zs n m:=rfl
def mgetO (k:Nat) (one ok:Bool) (zs:List Cell) (n:Int):Option Obj → Option Eff
 | some (.mob one' es)=>if one'=one then some (.look (mres one ok zs (mgetL es n)) [k]) else none
 | _=>none
@[simp] theorem mgetAt_mp (one ok:Bool) (zs:List Cell) (n:Int) (k t:Nat):mgetAt σ one ok zs n (.c (.mp k t))=if t=σ.tg k then mgetO k one ok zs n (σ.ob k) else none:=by
 simp only [mgetAt]
 split
 ·cases σ.ob k with
  | none=>rfl
  | some q=>cases q <;> rfl
 ·rfl
@[simp] theorem mgetO_some (k:Nat) (one one' ok:Bool) (zs:List Cell) (n:Int) (es:List (Int × List Cell)):mgetO k one ok zs n (some (.mob one' es))=if one'=one then some (.look (mres one ok zs (mgetL es n)) [k]) else none:=rfl
def lenO (k:Nat):Option Obj → Option Eff
 | some (.mrow _ _ _ es)=>some (.look (.c (.v (.int .i64 es.length))) [k])
 | some (.row _ _ _ es)=>some (.look (.c (.v (.int .i64 es.length))) [k])
 | some (.cut _ _ _ es)=>some (.look (.c (.v (.int .i64 es.length))) [k])
 | _=>none
def lenE (σ:St):AV → Option Eff
 | .c (.own k t)=>if t=σ.tg k then lenO k (σ.ob k) else none
 | .c (.sl _ _ es)=>some (.pure (.c (.v (.int .i64 es.length))))
 | .c (.cap _ _ es)=>some (.pure (.c (.v (.int .i64 es.length))))
 | _=>none
@[simp] theorem ev1_len (ty:Nat) (x:SArg):ev1 key ρ σ (.len ty x)=lenE σ (un (ρ x)):=rfl
@[simp] theorem lenE_own (k t:Nat):lenE σ (.c (.own k t))=if t=σ.tg k then lenO k (σ.ob k) else none:=rfl
@[simp] theorem lenE_sl (sz bs:Nat) (es:List (List Cell)):lenE σ (.c (.sl sz bs es))=some (.pure (.c (.v (.int .i64 es.length)))):=rfl
@[simp] theorem lenE_cap (sz bs:Nat) (es:List (List Cell)):lenE σ (.c (.cap sz bs es))=some (.pure (.c (.v (.int .i64 es.length)))):=rfl
@[simp] theorem lenO_mrow (k ty sz bs:Nat) (es:List (List Cell)):lenO k (some (.mrow ty sz bs es))=some (.look (.c (.v (.int .i64 es.length))) [k]):=rfl
@[simp] theorem lenO_cut (k ty sz bs:Nat) (es:List (List Cell)):lenO k (some (.cut ty sz bs es))=some (.look (.c (.v (.int .i64 es.length))) [k]):=rfl
@[simp] theorem lenO_row (k ty sz bs:Nat) (es:List (List Cell)):lenO k (some (.row ty sz bs es))=some (.look (.c (.v (.int .i64 es.length))) [k]):=rfl
@[simp] theorem cond_len (ty:Nat) (x:SArg):cond β ρ σ (.len ty x)=gok β (ρ x):=rfl
def mkE (key t ty sz bs:Nat) (zs:List Cell):AV → Option Eff
 | .c (.v (.int .i64 m))=>some ⟨.c (.own key (t + 1)),[key],[(key,.mrow ty sz bs (List.replicate m.toNat (zs.map Cell.plain)))],[]⟩
 | _=>none
@[simp] theorem ev1_mk (ty sz bs:Nat) (zs:List Cell) (x:SArg):ev1 key ρ σ (.mk ty sz bs zs x)=mkE key (σ.tg key) ty sz bs zs (un (ρ x)):=rfl
@[simp] theorem mkE_i (t ty sz bs:Nat) (zs:List Cell) (m:Int):mkE key t ty sz bs zs (.c (.v (.int .i64 m)))=some ⟨.c (.own key (t + 1)),[key],[(key,.mrow ty sz bs (List.replicate m.toNat (zs.map Cell.plain)))],[]⟩:=rfl
def mkC (β:Bool) (bs:Nat):AV → Prop
 | .c (.v (.int .i64 m))=>β=true → 0 ≤ m ∧ m * bs ≤ room
 | _=>True
@[simp] theorem cond_mk (ty sz bs:Nat) (zs:List Cell) (x:SArg):cond β ρ σ (.mk ty sz bs zs x)=(gok β (ρ x) ∧ mkC β bs (un (ρ x))):=rfl
@[simp] theorem mkC_i (bs:Nat) (m:Int):mkC β bs (.c (.v (.int .i64 m)))=(β=true → 0 ≤ m ∧ m * bs ≤ room):=rfl
def elO:Option Obj → Option (Nat × Nat × List (List Cell))
 | some (.row _ sz bs es)=>some (sz,bs,es)
 | _=>none
@[simp] theorem elO_row (ty sz bs:Nat) (es:List (List Cell)):elO (some (.row ty sz bs es))=some (sz,bs,es):=rfl
@[simp] theorem elems_sl (sz bs:Nat) (es:List (List Cell)):elems σ (.c (.sl sz bs es))=some (sz,bs,es):=rfl
@[simp] theorem elems_cap (sz bs:Nat) (es:List (List Cell)):elems σ (.c (.cap sz bs es))=some (sz,bs,es):=rfl
@[simp] theorem elems_own (k t:Nat):elems σ (.c (.own k t))=if t=σ.tg k then elO (σ.ob k) else none:=rfl
def litK (σ:St):Option (List Cell) → Option (List (List Cell)) → Option (List (List Cell))
 | some cs,some l=>some (cs.map (toD σ) :: l)
 | _,_=>none
@[simp] theorem litK_some (cs:List Cell) (l:List (List Cell)):litK σ (some cs) (some l)=some (cs.map (toD σ) :: l):=rfl
@[simp] theorem litEs_nil:litEs σ []=some []:=rfl
@[simp] theorem litEs_cons (x:AV) (r:List AV):litEs σ (x :: r)=litK σ (cellsOf (un x)) (litEs σ r):=by simp only [litEs];unfold litK;split <;> simp_all
def litE (sz bs:Nat) (rd:List Nat):Option (List (List Cell)) → Option Eff
 | some es=>some (.look (.c (.cap sz bs es)) rd)
 | none=>none
@[simp] theorem litE_some (sz bs:Nat) (rd:List Nat) (es:List (List Cell)):litE sz bs rd (some es)=some (.look (.c (.cap sz bs es)) rd):=rfl
@[simp] theorem ev1_lit (ty sz bs:Nat) (xs:List SArg):ev1 key ρ σ (.lit ty sz bs xs)=litE sz bs (xs.flatMap fun x=>(un (ρ x)).keys1) (litEs σ (xs.map ρ)):=by simp only [ev1];unfold litE;split <;> simp_all
def litC (β:Bool) (sz bs:Nat):Option (List (List Cell)) → Prop
 | some es=>(∀ l,l ∈ es → l.length=sz ∧ l.all Cell.isD=true) ∧ (β=true → es.length * bs ≤ room ∧ es.length * sz ≤ 16777216)
 | none=>True
@[simp] theorem litC_some (sz bs:Nat) (es:List (List Cell)):litC β sz bs (some es)=((∀ l,l ∈ es → l.length=sz ∧ l.all Cell.isD=true) ∧ (β=true → es.length * bs ≤ room ∧ es.length * sz ≤ 16777216)):=rfl
@[simp] theorem cond_lit (ty sz bs:Nat) (xs:List SArg):cond β ρ σ (.lit ty sz bs xs)=((∀ x,x ∈ xs → gok β (ρ x)) ∧ litC β sz bs (litEs σ (xs.map ρ))):=by
 simp only [cond];unfold litC;split <;> simp_all
def appO (key t k ty sz bs:Nat) (rd:List Nat) (ys:List (List Cell)):Option Obj → Option Eff
 | some (.row ty' _ _ es)=>if ty'=ty then some ⟨.c (.own key (t + 1)),[key,k],[(key,.row ty sz bs (es ++ ys))],rd⟩ else none
 | some (.mrow ty' _ _ es)=>if ty'=ty then some ⟨.c (.own key (t + 1)),[key,k],[(key,.row ty sz bs (es ++ ys))],rd⟩ else none
 | some (.cut ty' _ _ es)=>if ty'=ty then some ⟨.c (.own key (t + 1)),[key,k],[(key,.cut ty sz bs (es ++ ys))],rd⟩ else none
 | _=>none
def appE (key:Nat) (σ:St) (ty sz bs:Nat) (rd:List Nat) (x:AV) (y:Option (Nat × Nat × List (List Cell))):Option Eff:=match y with
 | some (_,_,ys)=>match x with
  | .c (.cap _ _ es)=>some ⟨.c (.own key (σ.tg key + 1)),[key],[(key,.row ty sz bs (es ++ ys))],rd⟩
  | .c (.own k t)=>if t=σ.tg k then appO key (σ.tg key) k ty sz bs (k :: rd) ys (σ.ob k) else none
  | _=>none
 | none=>none
@[simp] theorem ev1_app (ty sz bs:Nat) (x y:SArg):ev1 key ρ σ (.app ty sz bs x y)=appE key σ ty sz bs (un (ρ y)).keys1 (un (ρ x)) (elems σ (un (ρ y))):=rfl
@[simp] theorem appE_cap (ty sz bs sz' bs' sz2 bs2:Nat) (rd:List Nat) (es ys:List (List Cell)):appE key σ ty sz bs rd (.c (.cap sz' bs' es)) (some (sz2,bs2,ys))=some ⟨.c (.own key (σ.tg key + 1)),[key],[(key,.row ty sz bs (es ++ ys))],rd⟩:=rfl
@[simp] theorem appE_own (ty sz bs k t sz2 bs2:Nat) (rd:List Nat) (ys:List (List Cell)):appE key σ ty sz bs rd (.c (.own k t)) (some (sz2,bs2,ys))=if t=σ.tg k then appO key (σ.tg key) k ty sz bs (k :: rd) ys (σ.ob k) else none:=rfl
@[simp] theorem appO_row (t k ty sz bs ty' sz' bs':Nat) (rd:List Nat) (es ys:List (List Cell)):appO key t k ty sz bs rd ys (some (.row ty' sz' bs' es))=if ty'=ty then some ⟨.c (.own key (t + 1)),[key,k],[(key,.row ty sz bs (es ++ ys))],rd⟩ else none:=rfl
@[simp] theorem appO_mrow (t k ty sz bs ty' sz' bs':Nat) (rd:List Nat) (es ys:List (List Cell)):appO key t k ty sz bs rd ys (some (.mrow ty' sz' bs' es))=if ty'=ty then some ⟨.c (.own key (t + 1)),[key,k],[(key,.row ty sz bs (es ++ ys))],rd⟩ else none:=rfl
@[simp] theorem appO_cut (t k ty sz bs ty' sz' bs':Nat) (rd:List Nat) (es ys:List (List Cell)):appO key t k ty sz bs rd ys (some (.cut ty' sz' bs' es))=if ty'=ty then some ⟨.c (.own key (t + 1)),[key,k],[(key,.cut ty sz bs (es ++ ys))],rd⟩ else none:=rfl
def capO (sz bs:Nat) (ys:List (List Cell)):Option Obj → Prop
 | some (.row _ sz' _ es)=>sz'=sz ∧ (es.length + ys.length) * bs ≤ room
 | some (.mrow _ sz' _ es)=>sz'=sz ∧ (es.length + ys.length) * bs ≤ room
 | some (.cut _ sz' _ es)=>sz'=sz ∧ (es.length + ys.length) * bs ≤ room
 | _=>True
def capE (σ:St) (sz bs:Nat) (ys:List (List Cell)):AV → Prop
 | .c (.cap sz' _ es)=>(sz'=sz ∨ es=[]) ∧ (es.length + ys.length) * bs ≤ room
 | .c (.own k _)=>capO sz bs ys (σ.ob k)
 | _=>True
def appC (σ:St) (sz bs:Nat) (x:AV):Option (Nat × Nat × List (List Cell)) → Prop
 | some q=>(q.1=sz ∨ q.2.2=[]) ∧ capE σ sz bs q.2.2 x
 | none=>True
@[simp] theorem capO_cut (sz bs ty sz' bs':Nat) (es ys:List (List Cell)):capO sz bs ys (some (.cut ty sz' bs' es))=(sz'=sz ∧ (es.length + ys.length) * bs ≤ room):=rfl
@[simp] theorem capO_row (sz bs ty sz' bs':Nat) (es ys:List (List Cell)):capO sz bs ys (some (.row ty sz' bs' es))=(sz'=sz ∧ (es.length + ys.length) * bs ≤ room):=rfl
@[simp] theorem capO_mrow (sz bs ty sz' bs':Nat) (es ys:List (List Cell)):capO sz bs ys (some (.mrow ty sz' bs' es))=(sz'=sz ∧ (es.length + ys.length) * bs ≤ room):=rfl
@[simp] theorem capE_cap (sz bs sz' bs':Nat) (es ys:List (List Cell)):capE σ sz bs ys (.c (.cap sz' bs' es))=((sz'=sz ∨ es=[]) ∧ (es.length + ys.length) * bs ≤ room):=rfl
@[simp] theorem capE_own (sz bs k t:Nat) (ys:List (List Cell)):capE σ sz bs ys (.c (.own k t))=capO sz bs ys (σ.ob k):=rfl
@[simp] theorem appC_some (sz bs a b:Nat) (x:AV) (ys:List (List Cell)):appC σ sz bs x (some (a,b,ys))=((a=sz ∨ ys=[]) ∧ capE σ sz bs ys x):=rfl
@[simp] theorem cond_app (ty sz bs:Nat) (x y:SArg):cond β ρ σ (.app ty sz bs x y)=(gok β (ρ x) ∧ gok β (ρ y) ∧ (β=true → appC σ sz bs (un (ρ x)) (elems σ (un (ρ y))))):=by
 have h:cond β ρ σ (.app ty sz bs x y)=(gok β (ρ x) ∧ gok β (ρ y) ∧ (β=true → ∀ q,elems σ (un (ρ y))=some q → (q.1=sz ∨ q.2.2=[]) ∧ capE σ sz bs q.2.2 (un (ρ x)))):=rfl
 rw [h]
 unfold appC
 cases elems σ (un (ρ y)) <;> simp
theorem ap_appw {d key k:Nat} {v:AV} {o:Obj} {rd:List Nat}:σ.ap (some d) ⟨v,[key,k],[(key,o)],rd⟩=if key=k then (σ.new key o).set d v else ((σ.del k).new key o).set d v:=by
 by_cases h:key=k
 ·subst h
  rw [if_pos rfl,← ap_new (rd:=rd)]
  refine st_ext (fun s=>rfl) (fun k'=>?_) fun k'=>?_
  ·simp [St.ap,obAfter]
  ·simp [St.ap]
 ·rw [if_neg h];exact ap_app h
attribute [simp] ap_appw ap_put
def mrowO (k ty:Nat):Option Obj → Option (Nat × Nat × List (List Cell))
 | some (.mrow ty' sz _ es)=>if ty'=ty then some (k,sz,es) else none
 | some (.row ty' sz _ [])=>if ty'=ty then some (k,sz,[]) else none
 | _=>none
@[simp] theorem mrowAt_own (k t ty:Nat):mrowAt σ ty (.c (.own k t))=if t=σ.tg k then mrowO k ty (σ.ob k) else none:=by
 simp only [mrowAt]
 by_cases h:t=σ.tg k
 ·rw [if_pos h,if_pos h];rfl
 ·rw [if_neg h,if_neg h]
@[simp] theorem mrowO_mrow (k ty ty' sz bs:Nat) (es:List (List Cell)):mrowO k ty (some (.mrow ty' sz bs es))=if ty'=ty then some (k,sz,es) else none:=rfl
@[simp] theorem mrowO_row (k ty ty' sz bs:Nat):mrowO k ty (some (.row ty' sz bs []))=if ty'=ty then some (k,sz,[]) else none:=rfl
@[simp] theorem ev1_appm (ty sz bs:Nat) (x y:SArg):ev1 key ρ σ (.appm ty sz bs x y)=appmE key (σ.tg key) ty sz bs (un (ρ x)) (un (ρ y)).keys1 (mrowAt σ ty (un (ρ x))) (elems σ (un (ρ y))):=rfl
@[simp] theorem cond_appm (ty sz bs:Nat) (x y:SArg):cond β ρ σ (.appm ty sz bs x y)=(gok β (ρ x) ∧ gok β (ρ y) ∧ (β=true → appmC sz bs (mrowAt σ ty (un (ρ x))) (elems σ (un (ρ y))))):=rfl
@[simp] theorem appmC_nil (sz bs k sx sy b:Nat) (es:List (List Cell)):appmC sz bs (some (k,sx,es)) (some (sy,b,[]))=True:=rfl
@[simp] theorem appmC_cons (sz bs k sx sy b:Nat) (es ys:List (List Cell)) (y:List Cell):appmC sz bs (some (k,sx,es)) (some (sy,b,y :: ys))=(sx=sz ∧ sy=sz ∧ (es.length + (ys.length + 1)) * bs ≤ room):=rfl
def rowO (k ty:Nat):Option Obj → Option (Nat × Nat × Nat × List (List Cell))
 | some (.row ty' sz bs es)=>if ty'=ty then some (k,sz,bs,es) else none
 | some (.cut ty' sz bs es)=>if ty'=ty then some (k,sz,bs,es) else none
 | _=>none
@[simp] theorem rowAt_own (k t ty:Nat):rowAt σ ty (.c (.own k t))=if t=σ.tg k then rowO k ty (σ.ob k) else none:=by
 simp only [rowAt]
 by_cases h:t=σ.tg k
 ·rw [if_pos h,if_pos h];rfl
 ·rw [if_neg h,if_neg h]
@[simp] theorem rowO_row (k ty ty' sz bs:Nat) (es:List (List Cell)):rowO k ty (some (.row ty' sz bs es))=if ty'=ty then some (k,sz,bs,es) else none:=rfl
@[simp] theorem rowO_cut (k ty ty' sz bs:Nat) (es:List (List Cell)):rowO k ty (some (.cut ty' sz bs es))=if ty'=ty then some (k,sz,bs,es) else none:=rfl
@[simp] theorem ev1_cut (ty sz:Nat) (x l:SArg):ev1 key ρ σ (.cut ty sz x l)=cutE key (σ.tg key) ty (rowAt σ ty (un (ρ x))) (intOf? (un (ρ l))):=rfl
@[simp] theorem cutE_some (tk ty k sz bs:Nat) (es:List (List Cell)) (l:Int):cutE key tk ty (some (k,sz,bs,es)) (some l)=some ⟨.c (.own key (tk + 1)),[key,k],[(key,.cut ty sz bs (es.drop l.toNat))],[k]⟩:=rfl
@[simp] theorem cond_cut (ty sz:Nat) (x l:SArg):cond β ρ σ (.cut ty sz x l)=(gok β (ρ x) ∧ gok β (ρ l) ∧ (β=true → cutC sz (rowAt σ ty (un (ρ x))) (intOf? (un (ρ l))))):=rfl
@[simp] theorem cutC_some (sz k sx bs:Nat) (es:List (List Cell)) (l:Int):cutC sz (some (k,sx,bs,es)) (some l)=(sx=sz ∧ 0 ≤ l ∧ l ≤ es.length):=rfl
@[simp] theorem ev1_shr (ty sz bs:Nat) (x h:SArg):ev1 key ρ σ (.shr ty sz bs x h)=shrE key (σ.tg key) ty sz bs (mrowAt σ ty (un (ρ x))) (intOf? (un (ρ h))):=rfl
@[simp] theorem cond_shr (ty sz bs:Nat) (x h:SArg):cond β ρ σ (.shr ty sz bs x h)=(gok β (ρ x) ∧ gok β (ρ h) ∧ (β=true → shrC sz bs (mrowAt σ ty (un (ρ x))) (intOf? (un (ρ h))))):=rfl
@[simp] theorem shrC_some (sz bs k sx:Nat) (es:List (List Cell)) (h:Int):shrC sz bs (some (k,sx,es)) (some h)=(sx=sz ∧ 0 < es.length ∧ 0 ≤ h ∧ h ≤ es.length ∧ es.length * bs ≤ room):=rfl
@[simp] theorem ev1_iaa (ty sz m:Nat) (x i:SArg):ev1 key ρ σ (.iaa ty sz m x i)=iaaE σ sz (intOf? (un (ρ i))) (un (ρ x)):=rfl
@[simp] theorem iaaE_ref (sz k t o:Nat) (i:Int):iaaE σ sz (some i) (.c (.ref k t o))=if t=σ.tg k then some (.look (.c (.ref k t (o + i.toNat * sz))) [k]) else none:=rfl
@[simp] theorem iaaE_elp (sz j:Nat) (cs:List Cell) (i:Int):iaaE σ sz (some i) (.c (.elp cs j))=some (.pure (.c (.elp cs (j + i.toNat * sz)))):=rfl
@[simp] theorem iaaE_elw (sz k t s p j:Nat) (i:Int):iaaE σ sz (some i) (.c (.elw k t s p j))=if t=σ.tg k then some (.look (.c (.elw k t s p (j + i.toNat * sz))) [k]) else none:=rfl
def iaaC (m:Nat):Option Int → Prop
 | some n=>0 ≤ n ∧ n < m
 | none=>True
@[simp] theorem iaaC_some (m:Nat) (n:Int):iaaC m (some n)=(0 ≤ n ∧ n < m):=rfl
@[simp] theorem cond_iaa (ty sz m:Nat) (x i:SArg):cond β ρ σ (.iaa ty sz m x i)=(gok β (ρ x) ∧ gok β (ρ i) ∧ (β=true → iaaC m (intOf? (un (ρ i))))):=by
 simp only [cond]
 unfold iaaC
 cases intOf? (un (ρ i)) <;> simp
def mkbE (key t ty:Nat) (z:Cell):AV → Option Eff
 | .c (.v (.int .i64 m))=>some ⟨.c (.sob key (t + 1) m.toNat),[key],[(key,.box ty (List.replicate m.toNat z))],[]⟩
 | _=>none
@[simp] theorem ev1_mkb (ty bs:Nat) (z:Cell) (x:SArg):ev1 key ρ σ (.mkb ty bs z x)=mkbE key (σ.tg key) ty z (un (ρ x)):=rfl
@[simp] theorem mkbE_i (t ty:Nat) (z:Cell) (m:Int):mkbE key t ty z (.c (.v (.int .i64 m)))=some ⟨.c (.sob key (t + 1) m.toNat),[key],[(key,.box ty (List.replicate m.toNat z))],[]⟩:=rfl
@[simp] theorem cond_mkb (ty bs:Nat) (z:Cell) (x:SArg):cond β ρ σ (.mkb ty bs z x)=(gok β (ρ x) ∧ mkC β bs (un (ρ x))):=rfl
@[simp] theorem ev1_mki (ty:Nat) (x:SArg):ev1 key ρ σ (.mki ty x)=mkiE σ ty (un (ρ x)):=rfl
@[simp] theorem cond_mki (ty:Nat) (x:SArg):cond β ρ σ (.mki ty x)=gok β (ρ x):=rfl
@[simp] theorem mkiE_v (ty:Nat) (v:Value):mkiE σ ty (.c (.v v))=some (.pure (.c (.v (.iface ty v)))):=rfl
@[simp] theorem mkiE_ref (ty k t:Nat):mkiE σ ty (.c (.ref k t 0))=if t=σ.tg k then some (.look (.c (.ifc ty k t)) [k]) else none:=rfl
@[simp] theorem ev1_nileq (n:Bool) (x:SArg):ev1 key ρ σ (.nileq n x)=nileqE n (elems σ (un (ρ x))):=rfl
@[simp] theorem nileqE_some (n:Bool) (s b:Nat) (l:List Cell) (es:List (List Cell)):nileqE n (some (s + 1,b,l :: es))=some (.pure (.c (.v (.bool n)))):=rfl
@[simp] theorem nileqE_one (n:Bool) (b:Nat) (l:List Cell) (es:List (List Cell)):nileqE n (some (1,b,l :: es))=some (.pure (.c (.v (.bool n)))):=rfl
@[simp] theorem cond_nileq (n:Bool) (x:SArg):cond β ρ σ (.nileq n x)=gok β (ρ x):=rfl
@[simp] theorem ev1_appn (ty sz bs:Nat) (x y:SArg):ev1 key ρ σ (.appn ty sz bs x y)=appnE key (σ.tg key) ty sz bs (un (ρ y)).keys1 (un (ρ x)) (elems σ (un (ρ y))):=rfl
@[simp] theorem cond_appn (ty sz bs:Nat) (x y:SArg):cond β ρ σ (.appn ty sz bs x y)=(gok β (ρ x) ∧ gok β (ρ y) ∧ (β=true → appnC sz bs (elems σ (un (ρ y))))):=rfl
@[simp] theorem appnC_some (sz bs sy b:Nat) (ys:List (List Cell)):appnC sz bs (some (sy,b,ys))=(sy=sz ∧ 0 < ys.length ∧ ys.length * bs ≤ room):=rfl
@[simp] theorem ev1_pan (x:SArg):ev1 key ρ σ (.pan x)=none:=rfl
@[simp] theorem cond_pan (x:SArg):cond β ρ σ (.pan x)=gok β (ρ x):=rfl
@[simp] theorem ev1_tas (ty:Nat) (x:SArg):ev1 key ρ σ (.tas ty x)=tasE ty (un (ρ x)):=rfl
@[simp] theorem cond_tas (ty:Nat) (x:SArg):cond β ρ σ (.tas ty x)=gok β (ρ x):=rfl
@[simp] theorem tasE_i (ty t:Nat) (k:IntKind) (n:Int):tasE ty (.c (.v (.iface t (.int k n))))=if t=ty then some (.pure (.tup [.c (.v (.int k n)),.c (.v (.bool true))])) else none:=rfl
def loOf (ρ:SArg → AV):Option SArg → Option Int
 | some y=>intOf? (un (ρ y))
 | none=>some 0
def hiOf (ρ:SArg → AV) (len:Nat):Option SArg → Option Int
 | some y=>intOf? (un (ρ y))
 | none=>some len
@[simp] theorem loOf_s (y:SArg):loOf ρ (some y)=intOf? (un (ρ y)):=rfl
@[simp] theorem loOf_n:loOf ρ none=some 0:=rfl
@[simp] theorem hiOf_s (len:Nat) (y:SArg):hiOf ρ len (some y)=intOf? (un (ρ y)):=rfl
@[simp] theorem hiOf_n (len:Nat):hiOf ρ len none=some (len:Int):=rfl
def slcE (sz bs:Nat) (rd:List Nat) (cut:Bool) (es:List (List Cell)):Option Int → Option Int → Option Eff
 | some l,some h=>some (.look (.c (bif cut then .cap sz bs ((es.take h.toNat).drop l.toNat) else .sl sz bs ((es.take h.toNat).drop l.toNat))) rd)
 | _,_=>none
@[simp] theorem slcE_some (sz bs:Nat) (rd:List Nat) (cut:Bool) (es:List (List Cell)) (l h:Int) :
  slcE sz bs rd cut es (some l) (some h)=some (.look (.c (bif cut then .cap sz bs ((es.take h.toNat).drop l.toNat) else .sl sz bs ((es.take h.toNat).drop l.toNat))) rd):=rfl
def slcK (ρ:SArg → AV) (sz bs:Nat) (rd:List Nat) (lo hi:Option SArg) (cut:Bool):Option (Nat × Nat × List (List Cell)) → Option Eff
 | some (_,_,es)=>slcE sz bs rd cut es (loOf ρ lo) (hiOf ρ es.length hi)
 | none=>none
@[simp] theorem slcK_some (sz bs a b:Nat) (rd:List Nat) (lo hi:Option SArg) (cut:Bool) (es:List (List Cell)):slcK ρ sz bs rd lo hi cut (some (a,b,es))=slcE sz bs rd cut es (loOf ρ lo) (hiOf ρ es.length hi):=rfl
@[simp] theorem ev1_slc2 (ty sz bs:Nat) (x:SArg) (lo hi:Option SArg):ev1 key ρ σ (.slc ty sz bs x lo hi none)=slcK ρ sz bs (un (ρ x)).keys1 lo hi false (elems σ (un (ρ x))):=by
 unfold slcK;cases h:elems σ (un (ρ x)) with
 | none=>simp only [ev1,h]
 | some q=>
  obtain ⟨a,b,es⟩:=q
  unfold slcE
  cases lo <;> cases hi <;> simp only [ev1,h,loOf,hiOf] <;> (try split) <;> (try rfl) <;> simp_all
def mxE (ρ:SArg → AV) (y:SArg) (e:Option Eff):Option Eff:=match intOf? (un (ρ y)) with
 | some _=>e
 | none=>none
def slcC (β:Bool) (ρ:SArg → AV) (sz bs:Nat) (lo hi mx:Option SArg):Option (Nat × Nat × List (List Cell)) → Prop
 | some q=>(q.1=sz ∨ q.2.2=[]) ∧ q.2.2.length * bs ≤ room ∧
    ∀ l h:Int,loOf ρ lo=some l → hiOf ρ q.2.2.length hi=some h → 0 ≤ l ∧ l ≤ h ∧ h ≤ q.2.2.length ∧ ∀ y,mx=some y → intOf? (un (ρ y))=some h
 | none=>True
@[simp] theorem slcC_some (sz bs a b:Nat) (lo hi mx:Option SArg) (es:List (List Cell)):slcC β ρ sz bs lo hi mx (some (a,b,es))=((a=sz ∨ es=[]) ∧ es.length * bs ≤ room ∧
    ∀ l h:Int,loOf ρ lo=some l → hiOf ρ es.length hi=some h → 0 ≤ l ∧ l ≤ h ∧ h ≤ es.length ∧ ∀ y,mx=some y → intOf? (un (ρ y))=some h):=rfl
@[simp] theorem cond_slc (ty sz bs:Nat) (x:SArg) (lo hi mx:Option SArg):cond β ρ σ (.slc ty sz bs x lo hi mx)=(gok β (ρ x) ∧ (∀ y,lo=some y → gok β (ρ y)) ∧ (∀ y,hi=some y → gok β (ρ y)) ∧ (∀ y,mx=some y → gok β (ρ y)) ∧
  (β=true → slcC β ρ sz bs lo hi mx (elems σ (un (ρ x))))):=by
 simp only [cond]
 unfold slcC
 cases elems σ (un (ρ x)) with
 | none=>simp
 | some q=>cases lo <;> cases hi <;> simp [loOf,hiOf]
@[simp] theorem ev1_slc3 (ty sz bs:Nat) (x y:SArg) (lo hi:Option SArg):ev1 key ρ σ (.slc ty sz bs x lo hi (some y))=mxE ρ y (slcK ρ sz bs (un (ρ x)).keys1 lo hi true (elems σ (un (ρ x)))):=by
 unfold slcK mxE;cases h:elems σ (un (ρ x)) with
 | none=>simp only [ev1,h];split <;> rfl
 | some q=>
  obtain ⟨a,b,es⟩:=q
  unfold slcE
  cases h3:intOf? (un (ρ y)) <;> cases lo <;> cases hi <;> simp only [ev1,h,h3,loOf,hiOf] <;> (try split) <;> (try rfl) <;> simp_all
end Go.Abs

namespace Go.Abs
variable {P:Program} {base:Nat} {σ:St} {key:Nat} {ρ:SArg → AV} {β:Bool}
def bar (anc:List Nat) (n i:Nat):Bool:=(List.range n).all fun j=>decide (i=j) || (anc.getD i 0).testBit j || (anc.getD j 0).testBit i
def W1A (P:Program) (base:Nat) (ok:Bool) (so:SO) (σ:St) (K:St → Prop):Prop:=∃ e,SemO P base so σ e ∧ (wrote e=[] ∨ ok=true) ∧ K (σ.ap so.dst e)
def WDA (P:Program) (base:Nat) (anc:List Nat) (n:Nat):Nat → List SO → St → (St → Prop) → Prop
 | _,[],σ,K=>K σ
 | i,so :: l,σ,K=>W1A P base (bar anc n i) so σ fun σ'=>WDA P base anc n (i + 1) l σ' K
theorem fineW_bar {anc:List Nat} {n:Nat} {tr:List TE} (h1:∀ x,x ∈ tr → x.i < n) (h2:∀ x,x ∈ tr → x.wr=[] ∨ bar anc n x.i=true):fineW anc tr=true:=by
 simp only [fineW,List.all_eq_true,List.mem_filter]
 rintro x ⟨hx,hw⟩ y hy
 rcases h2 x hx with h | h
 ·rw [h] at hw;simp at hw
 ·simp only [bar,List.all_eq_true,List.mem_range] at h
  have:=h y.i (h1 y hy)
  simp only [Bool.or_eq_true] at this ⊢
  rcases this with (h' | h') | h'
  ·exact .inl (.inl (.inl h'))
  ·exact .inl (.inr h')
  ·exact .inl (.inl (.inr h'))
theorem WDA_WD {anc:List Nat} {n:Nat} {K:St → Prop}:∀ {l:List SO} {i:Nat} {σ:St} {tr:List TE},i + l.length=n → (∀ x,x ∈ tr → x.i < n) → (∀ x,x ∈ tr → x.wr=[] ∨ bar anc n x.i=true) →
  WDA P base anc n i l σ K → WD P base anc i l σ tr K
 | [],i,σ,tr,_,h1,h2,h=>⟨fineW_bar (by simpa using h1) (by simpa using h2),h⟩
 | so :: l,i,σ,tr,hn,h1,h2,⟨e,h3,h4,h5⟩=>by
  refine ⟨e,h3,WDA_WD (by simp at hn;omega) (fun x hx=>?_) (fun x hx=>?_) h5⟩
  ·rcases List.mem_cons.1 hx with rfl | hx
   ·simp at hn ⊢;omega
   ·exact h1 x hx
  ·rcases List.mem_cons.1 hx with rfl | hx
   ·exact h4
   ·exact h2 x hx
def realC (Q:SEx → St → Prop) (σ:St):Prop:=(∀ s,RealA (σ.sl s)) → Q .normal σ
theorem realC_ap (Q:SEx → St → Prop):realC Q σ=((∀ s,RealA (σ.sl s)) → Q .normal σ):=rfl
theorem realC_n {Q:SEx → St → Prop} (h:Q .normal σ):realC Q σ:=fun _=>h
def dC (P:Program) (base:Nat) (anc:List Nat) (n i:Nat) (l:List SO) (K:St → Prop) (σ:St):Prop:=WDA P base anc n i l σ K
@[simp] theorem dC_ap (anc:List Nat) (n i:Nat) (l:List SO) (K:St → Prop):dC P base anc n i l K σ=WDA P base anc n i l σ K:=rfl
theorem W_dregA {anc:List Nat} {l:List SO} {Q:SEx → St → Prop} (h:WDA P base anc l.length 0 l σ (realC Q)):W P base (.dreg anc l) σ Q:=
 WDA_WD (by simp) (by simp) (by simp) h
@[simp] theorem WDA_nil (anc:List Nat) (n i:Nat) (K:St → Prop):WDA P base anc n i [] σ K=K σ:=rfl
@[simp] theorem WDA_cons (anc:List Nat) (n i:Nat) (so:SO) (l:List SO) (K:St → Prop):WDA P base anc n i (so :: l) σ K=W1A P base (bar anc n i) so σ (dC P base anc n (i + 1) l K):=rfl
@[congr] theorem WDA_congr {anc:List Nat} {n i:Nat} {l:List SO} {σ σ':St} {K:St → Prop} (h:σ=σ'):WDA P base anc n i l σ K=WDA P base anc n i l σ' K:=by rw [h]
@[congr] theorem W1A_congr {ok:Bool} {so:SO} {σ σ':St} {K:St → Prop} (h2:σ=σ'):W1A P base ok so σ K=W1A P base ok so σ' K:=by rw [h2]
def WEA (ok:Bool) (o:Option Eff) (c:Prop) (σ:St) (d:Option Nat) (K:St → Prop):Prop:=WE o c fun e=>(wrote e=[] ∨ ok=true) ∧ K (σ.ap d e)
@[congr] theorem WEA_congr {ok:Bool} {o o':Option Eff} {c c':Prop} {σ σ':St} {d:Option Nat} {K:St → Prop} (h1:o=o') (h2:c=c') (h3:σ=σ'):WEA ok o c σ d K=WEA ok o' c' σ' d K:=by rw [h1,h2,h3]
@[simp] theorem WEA_pure (ok:Bool) (v:AV) (d:Nat) (K:St → Prop):WEA ok (some (Eff.pure v)) True σ (some d) K=K (σ.set d v):=by simp [WEA,wrote]
@[simp] theorem WEA_look (ok:Bool) (v:AV) (l:List Nat) (d:Nat) (K:St → Prop):WEA ok (some (Eff.look v l)) True σ (some d) K=K (σ.set d v):=by simp [WEA,wrote]
@[simp low] theorem WEA_pure' (ok:Bool) (v:AV) (d:Nat) (c:Prop) (K:St → Prop):WEA ok (some (Eff.pure v)) c σ (some d) K=(c ∧ K (σ.set d v)):=by simp [WEA,wrote,WE_some]
@[simp low] theorem WEA_look' (ok:Bool) (v:AV) (l:List Nat) (d:Nat) (c:Prop) (K:St → Prop):WEA ok (some (Eff.look v l)) c σ (some d) K=(c ∧ K (σ.set d v)):=by simp [WEA,wrote,WE_some]
@[simp] theorem WEA_new (ok:Bool) (v:AV) (k:Nat) (o:Obj) (rd:List Nat) (d:Nat) (c:Prop) (K:St → Prop):WEA ok (some ⟨v,[k],[(k,o)],rd⟩) c σ (some d) K=(ok=true ∧ c ∧ K ((σ.new k o).set d v)):=by simp [WEA,WE_some,wrote];exact ⟨fun h=>⟨h.2.1,h.1,h.2.2⟩,fun h=>⟨h.2.1,h.1,h.2.2⟩⟩
@[simp] theorem WEA_put (ok:Bool) (v:AV) (k:Nat) (o:Obj) (rd:List Nat) (c:Prop) (K:St → Prop):WEA ok (some ⟨v,[],[(k,o)],rd⟩) c σ none K=(ok=true ∧ c ∧ K (σ.puto k o)):=by simp [WEA,WE_some,wrote];exact ⟨fun h=>⟨h.2.1,h.1,h.2.2⟩,fun h=>⟨h.2.1,h.1,h.2.2⟩⟩
@[simp] theorem WEA_app (ok:Bool) (v:AV) (k k':Nat) (o:Obj) (rd:List Nat) (d:Nat) (c:Prop) (K:St → Prop):WEA ok (some ⟨v,[k,k'],[(k,o)],rd⟩) c σ (some d) K=(ok=true ∧ c ∧ K (if k=k' then (σ.new k o).set d v else ((σ.del k').new k o).set d v)):=by simp [WEA,WE_some,wrote];exact ⟨fun h=>⟨h.2.1,h.1,h.2.2⟩,fun h=>⟨h.2.1,h.1,h.2.2⟩⟩
def WGA (ok:Bool) (o:Option Eff) (c:Prop) (β:Bool) (σ:St) (d:Option Nat) (K:St → Prop):Prop:=WE (gW β o) (gC c o) fun e=>(wrote (gE β e)=[] ∨ ok=true) ∧ K (σ.ap d (gE β e))
@[congr] theorem WGA_congr {ok:Bool} {o o':Option Eff} {c c':Prop} {β β':Bool} {σ σ':St} {d:Option Nat} {K:St → Prop} (h:o=o') (h2:c=c') (h3:β=β') (h4:σ=σ'):WGA ok o c β σ d K=WGA ok o' c' β' σ' d K:=by rw [h,h2,h3,h4]
@[simp low] theorem WGA_f (ok:Bool) (v:AV) (pur:List Nat) (put:List (Nat × Obj)) (rd:List Nat) (c:Prop) (d:Option Nat) (K:St → Prop):WGA ok (some ⟨v,pur,put,rd⟩) c false σ d K=(c ∧ K (σ.ap d ⟨.gd false v,[],[],rd⟩)):=by simp [WGA,WE,wrote]
@[simp low] theorem WGA_t (ok:Bool) (v:AV) (pur:List Nat) (put:List (Nat × Obj)) (rd:List Nat) (c:Prop) (d:Option Nat) (K:St → Prop):WGA ok (some ⟨v,pur,put,rd⟩) c true σ d K=((pur ++ put.map (·.1)=[] ∨ ok=true) ∧ c ∧ K (σ.ap d ⟨.gd true v,pur,put,rd⟩)):=by
 simp only [WGA,WE,gW_some,gC_some,wrote,gE_t]
 exact propext ⟨fun ⟨_,e,h⟩=>by cases e;exact ⟨h.2.1,h.1,h.2.2⟩,fun h=>⟨_,rfl,h.2.1,h.1,h.2.2⟩⟩
@[simp] theorem WGA_pure (ok:Bool) (v:AV) (β:Bool) (d:Nat) (K:St → Prop):WGA ok (some (Eff.pure v)) True β σ (some d) K=K (σ.set d (.gd β v)):=by simp [WGA,WE,Eff.pure,gE,wrote]
@[simp] theorem WGA_look (ok:Bool) (v:AV) (l:List Nat) (β:Bool) (d:Nat) (K:St → Prop):WGA ok (some (Eff.look v l)) True β σ (some d) K=K (σ.set d (.gd β v)):=by simp [WGA,WE,Eff.look,gE,wrote]
@[simp low] theorem WGA_rest (ok:Bool) (v:AV) (l:List Nat) (c:Prop) (β:Bool) (d:Nat) (K:St → Prop):WGA ok (some (Eff.look v l)) c β σ (some d) K=(c ∧ K (σ.set d (.gd β v))):=by simp [WGA,WE,Eff.look,gE,wrote]
@[simp low] theorem WGA_rest2 (ok:Bool) (v:AV) (c:Prop) (β:Bool) (d:Nat) (K:St → Prop):WGA ok (some (Eff.pure v)) c β σ (some d) K=(c ∧ K (σ.set d (.gd β v))):=by simp [WGA,WE,Eff.pure,gE,wrote]
@[simp] theorem WGA_skip (ok:Bool) (c:Prop) (d:Nat) (K:St → Prop):WGA ok none c false σ (some d) K=K (σ.set d (.gd false (.c (.v (.bool false))))):=by simp [WGA,WE,gW,gC,gdD0,Eff.pure,gE,wrote]
def gdA (ok:Bool) (base:Nat) (op:SOp) (σ:St) (d:Option Nat) (K:St → Prop) (β:Bool):Prop:=WGA ok (ev1 (base + d.getD 0) σ.ev σ op) (cond β σ.ev σ op) β σ d K
@[simp] theorem gdA_ap (ok:Bool) (op:SOp) (d:Option Nat) (K:St → Prop) (β:Bool):gdA ok base op σ d K β=WGA ok (ev1 (base + d.getD 0) σ.ev σ op) (cond β σ.ev σ op) β σ d K:=rfl
def CallA (P:Program) (ok:Bool) (σ:St) (fv:AV) (xs:List AV) (d:Option Nat) (K:St → Prop):Prop:=
 ∃ fn k1 k2 ins outs res pur ps,CallSem P σ true fv xs fn k1 k2 ins outs res pur ∧ PutOf ins outs pur ps ∧ (pur ++ ps.map (·.1)=[] ∨ ok=true) ∧ K (σ.ap d ⟨res,pur,ps,ins.map (·.1)⟩)
def GCallA (P:Program) (σ:St) (β:Bool) (fv:AV) (xs:List AV) (d:Option Nat) (K:St → Prop):Prop:=
 ∃ fn k1 k2 ins outs res,CallSem P σ β fv xs fn k1 k2 ins outs res [] ∧ PutOf ins outs [] [] ∧ K (σ.ap d ⟨.gd β res,[],[],ins.map (·.1)⟩)
@[congr] theorem CallA_congr {ok:Bool} {σ σ':St} {fv fv':AV} {xs xs':List AV} {d:Option Nat} {K:St → Prop} (h:σ=σ') (h1:fv=fv') (h2:xs=xs'):CallA P ok σ fv xs d K=CallA P ok σ' fv' xs' d K:=by rw [h,h1,h2]
@[congr] theorem GCallA_congr {σ σ':St} {β β':Bool} {fv fv':AV} {xs xs':List AV} {d:Option Nat} {K:St → Prop} (h:σ=σ') (h0:β=β') (h1:fv=fv') (h2:xs=xs'):GCallA P σ β fv xs d K=GCallA P σ' β' fv' xs' d K:=by rw [h,h0,h1,h2]
theorem CallA.fn {ok:Bool} {d fn:Nat} {xs args:List AV} {res:AV} {K:St → Prop} (hs:Fn P fn args res) (ha:xs.map (fun x=>toD2 σ (un x))=args)
  (h2:∀ x,x ∈ xs → gok true x) (h4:res.keys2=[]) (hK:K (σ.set d res)):CallA P ok σ (.c (.clo fn [] [])) xs (some d) K:=by
 subst ha
 exact ⟨fn,[],[],[],[],res,[],[],call_sem rfl trivial h2 (fun _=>hs) h4,.inl rfl,.inl rfl,hK⟩
theorem GCallA.fn {d fn:Nat} {β:Bool} {xs args:List AV} {res:AV} {K:St → Prop} (hs:β=true → Fn P fn args res) (ha:xs.map (fun x=>toD2 σ (un x))=args)
  (h2:∀ x,x ∈ xs → gok β x) (h4:res.keys2=[]) (hK:K (σ.set d (.gd β res))):GCallA P σ β (.c (.clo fn [] [])) xs (some d) K:=by
 subst ha
 exact ⟨fn,[],[],[],[],res,call_sem rfl trivial h2 hs h4,.inl rfl,hK⟩
def WA1 (P:Program) (base:Nat) (ok:Bool) (so:SO) (σ:St) (K:St → Prop):Prop:=W1A P base ok so σ K
theorem W1A_plain {ok:Bool} {d:Option Nat} {op:SOp} {K:St → Prop} (h:op.isCall=false):W1A P base ok ⟨d,none,op⟩ σ K=WEA ok (ev1 (base + d.getD 0) σ.ev σ op) (cond true σ.ev σ op) σ d K:=by
 apply propext
 cases op <;> first
  | (simp [SOp.isCall] at h;done)
  | skip
 all_goals
  simp only [W1A,SemO,gdOf,gEff_none,WEA,WE,evG_none,condG_none]
  constructor
  ·rintro ⟨e,⟨β,hβ,e0,h1,h2,rfl⟩,h4,h5⟩
   cases hβ
   exact ⟨_,h1,h2,h4,h5⟩
  ·rintro ⟨e,h1,h2,h3,h4⟩
   exact ⟨e,⟨true,rfl,e,h1,h2,rfl⟩,h3,h4⟩
theorem W1A_gd {ok:Bool} {d:Option Nat} {s:Nat} {want:Bool} {op:SOp} {K:St → Prop} (h:op.isCall=false):W1A P base ok ⟨d,some (s,want),op⟩ σ K=gbK (gb (σ.sl s) want) (gdA ok base op σ d K):=by
 apply propext
 cases op <;> first
  | (simp [SOp.isCall] at h;done)
  | skip
 all_goals
  simp only [W1A,SemO,gdOf,gEff_some,gbK,gdA,WGA,WE,evG_gW,condG_gC]
  constructor
  ·rintro ⟨e,⟨β,hβ,e0,h1,h2,rfl⟩,h4,h5⟩
   exact ⟨β,hβ,e0,h1,h2,h4,h5⟩
  ·rintro ⟨β,hβ,e,h1,h2,h3,h4⟩
   exact ⟨gE β e,⟨β,hβ,e,h1,h2,rfl⟩,h3,h4⟩
@[simp] theorem W1A_none {ok:Bool} {d:Option Nat} {op:SOp} {K:St → Prop}:W1A P base ok ⟨d,none,op⟩ σ K=if op.isCall=true then WA1 P base ok ⟨d,none,op⟩ σ K else WEA ok (ev1 (base + d.getD 0) σ.ev σ op) (cond true σ.ev σ op) σ d K:=by
 by_cases h:op.isCall=true
 ·rw [if_pos h];rfl
 ·rw [if_neg h];exact W1A_plain (by simpa using h)
@[simp] theorem W1A_some {ok:Bool} {d:Option Nat} {s:Nat} {want:Bool} {op:SOp} {K:St → Prop}:W1A P base ok ⟨d,some (s,want),op⟩ σ K=if op.isCall=true then WA1 P base ok ⟨d,some (s,want),op⟩ σ K else gbK (gb (σ.sl s) want) (gdA ok base op σ d K):=by
 by_cases h:op.isCall=true
 ·rw [if_pos h];rfl
 ·rw [if_neg h];exact W1A_gd (by simpa using h)
@[congr] theorem WA1_congr {ok:Bool} {so:SO} {σ σ':St} {K:St → Prop} (h2:σ=σ'):WA1 P base ok so σ K=WA1 P base ok so σ' K:=by rw [h2]
@[simp] theorem WA1_eq {ok:Bool} {d:Option Nat} {f:SArg} {xs:List SArg} {K:St → Prop}:WA1 P base ok ⟨d,none,.call f xs⟩ σ K=CallA P ok σ (σ.ev f) (xs.map σ.ev) d K:=by
 apply propext
 constructor
 ·rintro ⟨e,⟨β,hβ,fn,k1,k2,ins,outs,res,pur,ps,h1,hp,_,rfl⟩,h2,h3⟩
  cases hβ
  exact ⟨fn,k1,k2,ins,outs,res,pur,ps,h1,hp,h2,h3⟩
 ·rintro ⟨fn,k1,k2,ins,outs,res,pur,ps,h1,hp,h2,h3⟩
  exact ⟨_,⟨true,rfl,fn,k1,k2,ins,outs,res,pur,ps,h1,hp,fun h=>absurd rfl h,rfl⟩,h2,h3⟩
def gaC (P:Program) (σ:St) (fv:AV) (xs:List AV) (d:Option Nat) (K:St → Prop) (β:Bool):Prop:=GCallA P σ β fv xs d K
@[simp] theorem gaC_ap (fv:AV) (xs:List AV) (d:Option Nat) (K:St → Prop) (β:Bool):gaC P σ fv xs d K β=GCallA P σ β fv xs d K:=rfl
@[simp] theorem WA1G_eq {ok:Bool} {d:Option Nat} {s:Nat} {want:Bool} {f:SArg} {xs:List SArg} {K:St → Prop}:WA1 P base ok ⟨d,some (s,want),.call f xs⟩ σ K=gbK (gb (σ.sl s) want) (gaC P σ (σ.ev f) (xs.map σ.ev) d K):=by
 apply propext
 constructor
 ·rintro ⟨e,⟨β,hβ,fn,k1,k2,ins,outs,res,pur,ps,h1,hp,hg,rfl⟩,h2,h3⟩
  obtain ⟨rfl,rfl⟩:=hg (by simp)
  exact ⟨β,hβ,fn,k1,k2,ins,outs,res,h1,hp,h3⟩
 ·rintro ⟨β,hβ,fn,k1,k2,ins,outs,res,h1,hp,h3⟩
  exact ⟨_,⟨β,hβ,fn,k1,k2,ins,outs,res,[],[],h1,hp,fun _=>⟨rfl,rfl⟩,rfl⟩,.inl rfl,h3⟩
@[simp] theorem WA1_inv {ok:Bool} {d:Option Nat} {f ty s:Nat} {bp:Bool} {xs:List SArg} {K:St → Prop}:WA1 P base ok ⟨d,none,.inv f bp ty s xs⟩ σ K=(gok true (σ.sl s) ∧ CallA P ok σ (.c (.clo f [] [])) (rcvE σ bp ty (un (σ.sl s)) :: xs.map σ.ev) d K):=by
 apply propext
 constructor
 ·rintro ⟨e,⟨β,hβ,hg0,fn,k1,k2,ins,outs,res,pur,ps,h1,hp,_,rfl⟩,h2,h3⟩
  cases hβ
  exact ⟨hg0,fn,k1,k2,ins,outs,res,pur,ps,h1,hp,h2,h3⟩
 ·rintro ⟨hg0,fn,k1,k2,ins,outs,res,pur,ps,h1,hp,h2,h3⟩
  exact ⟨_,⟨true,rfl,hg0,fn,k1,k2,ins,outs,res,pur,ps,h1,hp,fun h=>absurd rfl h,rfl⟩,h2,h3⟩
def giA (P:Program) (σ:St) (x fv:AV) (xs:List AV) (d:Option Nat) (K:St → Prop) (β:Bool):Prop:=gok β x ∧ GCallA P σ β fv xs d K
@[simp] theorem giA_ap (x fv:AV) (xs:List AV) (d:Option Nat) (K:St → Prop) (β:Bool):giA P σ x fv xs d K β=(gok β x ∧ GCallA P σ β fv xs d K):=rfl
@[simp] theorem WA1G_inv {ok:Bool} {d:Option Nat} {q:Nat} {want:Bool} {f ty s:Nat} {bp:Bool} {xs:List SArg} {K:St → Prop}:WA1 P base ok ⟨d,some (q,want),.inv f bp ty s xs⟩ σ K=gbK (gb (σ.sl q) want) (giA P σ (σ.sl s) (.c (.clo f [] [])) (rcvE σ bp ty (un (σ.sl s)) :: xs.map σ.ev) d K):=by
 apply propext
 constructor
 ·rintro ⟨e,⟨β,hβ,hg0,fn,k1,k2,ins,outs,res,pur,ps,h1,hp,hg,rfl⟩,h2,h3⟩
  obtain ⟨rfl,rfl⟩:=hg (by simp)
  exact ⟨β,hβ,hg0,fn,k1,k2,ins,outs,res,h1,hp,h3⟩
 ·rintro ⟨β,hβ,hg0,fn,k1,k2,ins,outs,res,h1,hp,h3⟩
  exact ⟨_,⟨β,hβ,hg0,fn,k1,k2,ins,outs,res,[],[],h1,hp,fun _=>⟨rfl,rfl⟩,rfl⟩,.inl rfl,h3⟩
end Go.Abs

namespace Go.Abs
variable {P:Program} {base:Nat} {σ:St} {key:Nat} {ρ:SArg → AV} {β:Bool}
structure FX where
 anc:List Nat
 n:Nat
 i0:Nat
 kf:List Nat
def FX.rel (X:FX) (i:Nat):Bool:=(X.anc.getD X.i0 0).testBit i || (X.anc.getD i 0).testBit X.i0
def okF' (X:FX) (base i:Nat) (so:SO) (σ:St) (e:Eff):Prop:=bar X.anc X.n i=true ∨ (i=X.i0 ∧ ∀ k,k ∈ wrote e → k ∈ X.kf) ∨ (wrote e=[] ∧ (X.rel i=true ∨ ∀ k,k ∈ X.kf → k ∉ lkOf base so σ e))
def W1F (P:Program) (base:Nat) (X:FX) (i:Nat) (so:SO) (σ:St) (K:St → Prop):Prop:=∃ e,SemO P base so σ e ∧ okF' X base i so σ e ∧ K (σ.ap so.dst e)
def WDF (P:Program) (base:Nat) (X:FX):Nat → List SO → St → (St → Prop) → Prop
 | _,[],σ,K=>K σ
 | i,so :: l,σ,K=>W1F P base X i so σ fun σ'=>WDF P base X (i + 1) l σ' K
theorem fineW_F {X:FX} {tr:List TE} (h1:∀ x,x ∈ tr → x.i < X.n) (h2:∀ x,x ∈ tr → bar X.anc X.n x.i=true ∨ (x.i=X.i0 ∧ ∀ k,k ∈ x.wr → k ∈ X.kf) ∨ (x.wr=[] ∧ (X.rel x.i=true ∨ ∀ k,k ∈ X.kf → k ∉ x.lk))):fineW X.anc tr=true:=by
 have hbar:∀ x y,x ∈ tr → y ∈ tr → bar X.anc X.n x.i=true → x.i=y.i ∨ (X.anc.getD y.i 0).testBit x.i=true ∨ (X.anc.getD x.i 0).testBit y.i=true:=fun x y hx hy h=>by
  simp only [bar,List.all_eq_true,List.mem_range] at h
  have:=h y.i (h1 y hy)
  simp only [Bool.or_eq_true,decide_eq_true_eq] at this
  rcases this with (h' | h') | h'
  ·exact .inl h'
  ·exact .inr (.inr h')
  ·exact .inr (.inl h')
 simp only [fineW,List.all_eq_true,List.mem_filter]
 rintro x ⟨hx,hw⟩ y hy
 simp only [Bool.or_eq_true,decide_eq_true_eq]
 rcases h2 x hx with h | ⟨hi,hwr⟩ | ⟨h,_⟩
 ·rcases hbar x y hx hy h with h' | h' | h'
  ·exact .inl (.inl (.inl h'))
  ·exact .inl (.inl (.inr h'))
  ·exact .inl (.inr h')
 ·rcases h2 y hy with h | ⟨hj,_⟩ | ⟨hyw,hyl⟩
  ·rcases hbar y x hy hx h with h' | h' | h'
   ·exact .inl (.inl (.inl h'.symm))
   ·exact .inl (.inr h')
   ·exact .inl (.inl (.inr h'))
  ·exact .inl (.inl (.inl (hi.trans hj.symm)))
  ·rcases hyl with hyr | hyl
   ·rw [hi]
    simp only [FX.rel,Bool.or_eq_true] at hyr
    rcases hyr with h' | h'
    ·exact .inl (.inr h')
    ·exact .inl (.inl (.inr h'))
   refine .inr ?_
   simp only [kOK,hyw,List.all_nil,Bool.and_true,List.all_eq_true]
   intro k hk
   simpa using hyl k (hwr k hk)
 ·rw [h] at hw;simp at hw
theorem WDF_WD {X:FX} {K:St → Prop}:∀ {l:List SO} {i:Nat} {σ:St} {tr:List TE},i + l.length=X.n → (∀ x,x ∈ tr → x.i < X.n) → (∀ x,x ∈ tr → bar X.anc X.n x.i=true ∨ (x.i=X.i0 ∧ ∀ k,k ∈ x.wr → k ∈ X.kf) ∨ (x.wr=[] ∧ (X.rel x.i=true ∨ ∀ k,k ∈ X.kf → k ∉ x.lk))) →
  WDF P base X i l σ K → WD P base X.anc i l σ tr K
 | [],i,σ,tr,_,h1,h2,h=>⟨fineW_F (by simpa using h1) (by simpa using h2),h⟩
 | so :: l,i,σ,tr,hn,h1,h2,⟨e,h3,h4,h5⟩=>by
  refine ⟨e,h3,WDF_WD (by simp at hn;omega) (fun x hx=>?_) (fun x hx=>?_) h5⟩
  ·rcases List.mem_cons.1 hx with rfl | hx
   ·simp at hn ⊢;omega
   ·exact h1 x hx
  ·rcases List.mem_cons.1 hx with rfl | hx
   ·exact h4
   ·exact h2 x hx
theorem W_dregF {anc:List Nat} {l:List SO} {Q:SEx → St → Prop} (i0:Nat) (kf:List Nat) (h:WDF P base ⟨anc,l.length,i0,kf⟩ 0 l σ (realC Q)):W P base (.dreg anc l) σ Q:=
 WDF_WD (X:=⟨anc,l.length,i0,kf⟩) (by simp) (by simp) (by simp) h
def seesF (kf:List Nat) (own:Nat) (xs:List AV) (rd:List Nat):Prop:=own ∉ kf ∧ (∀ x,x ∈ xs → ∀ k,k ∈ (un x).keys2 → k ∉ kf) ∧ ∀ k,k ∈ rd → k ∉ kf
theorem sees_lk {X:FX} {so:SO} {e:Eff} (h:seesF X.kf (base + so.dst.getD 0) (so.op.args.map σ.ev) e.rd) (hw:wrote e=[]):∀ k,k ∈ X.kf → k ∉ lkOf base so σ e:=by
 obtain ⟨h1,h2,h3⟩:=h
 intro k hk
 simp only [lkOf,hw,List.append_nil,List.mem_cons,List.mem_append,not_or]
 refine ⟨fun h=>h1 (h ▸ hk),?_,fun h=>h3 k h hk⟩
 simp only [opKeys,List.mem_flatMap,not_exists,not_and]
 exact fun x hx hm=>h2 _ (List.mem_map_of_mem (kargs_args hx)) k hm hk
def WEF (P:Program) (base:Nat) (X:FX) (i:Nat) (o:Option Eff) (c:Prop) (xs:List AV) (σ:St) (d:Option Nat) (K:St → Prop):Prop:=
 ∃ e,o=some e ∧ c ∧ (bar X.anc X.n i=true ∨ (i=X.i0 ∧ ∀ k,k ∈ wrote e → k ∈ X.kf) ∨ (wrote e=[] ∧ (X.rel i=true ∨ seesF X.kf (base + d.getD 0) xs e.rd))) ∧ K (σ.ap d e)
theorem W1F_of {X:FX} {i:Nat} {d:Option Nat} {op:SOp} {K:St → Prop} (hc:op.isCall=false) (h:WEF P base X i (ev1 (base + d.getD 0) σ.ev σ op) (cond true σ.ev σ op) (op.args.map σ.ev) σ d K):W1F P base X i ⟨d,none,op⟩ σ K:=by
 obtain ⟨e,he,hcd,ho,hK⟩:=h
 refine ⟨e,⟨true,rfl,?_⟩,?_,hK⟩
 ·cases op <;> first
   | (simp [SOp.isCall] at hc;done)
   | (simp [ev1,appmE,appnE,shrE] at he;done)
   | exact ⟨_,by simpa using he,by simpa only [condG_none] using hcd,rfl⟩
 ·rcases ho with h | h | ⟨h1,h2⟩
  ·exact .inl h
  ·exact .inr (.inl h)
  ·exact .inr (.inr ⟨h1,h2.imp id fun h2=>sees_lk (so:=⟨d,none,op⟩) h2 h1⟩)
def FCall (P:Program) (base:Nat) (X:FX) (i:Nat) (fv:AV) (xs:List AV) (σ:St) (d:Option Nat) (K:St → Prop):Prop:=
 (∃ fn res,CallSem P σ true fv xs fn [] [] [] [] res [] ∧ (X.rel i=true ∨ seesF X.kf (base + d.getD 0) (fv :: xs) []) ∧ K (σ.ap d ⟨res,[],[],[]⟩)) ∨
 ∃ fn k1 k2 ins outs res,CallSem P σ true fv xs fn k1 k2 ins outs res [] ∧ i=X.i0 ∧ (∀ k,k ∈ outs.map (·.1) → k ∈ X.kf) ∧ K (σ.ap d ⟨res,[],objsOf outs,ins.map (·.1)⟩)
def W1E (P:Program) (base:Nat) (X:FX) (i:Nat) (so:SO) (σ:St) (K:St → Prop):Prop:=match so with
 | ⟨d,none,.call f xs⟩=>FCall P base X i (σ.ev f) (xs.map σ.ev) σ d K
 | ⟨d,none,op⟩=>WEF P base X i (ev1 (base + d.getD 0) σ.ev σ op) (cond true σ.ev σ op) (op.args.map σ.ev) σ d K
 | ⟨_,some _,_⟩=>False
def WDE (P:Program) (base:Nat) (X:FX):Nat → List SO → St → (St → Prop) → Prop
 | _,[],σ,K=>K σ
 | i,so :: l,σ,K=>W1E P base X i so σ fun σ'=>WDE P base X (i + 1) l σ' K
theorem W1E_F {X:FX} {i:Nat} {so:SO} {K:St → Prop} (h:W1E P base X i so σ K):W1F P base X i so σ K:=by
 obtain ⟨d,gd,op⟩:=so
 cases gd with
 | some g=>cases op <;> exact h.elim
 | none=>
  cases op
  case call f xs=>
   rcases h with ⟨fn,res,h1,h2,h3⟩ | ⟨fn,k1,k2,ins,outs,res,h1,h2,h3,h4⟩
   ·exact ⟨⟨res,[],[],[]⟩,⟨true,rfl,fn,[],[],[],[],res,[],[],h1,.inl rfl,fun h=>absurd rfl h,rfl⟩,.inr (.inr ⟨rfl,h2.imp id fun h2=>sees_lk (so:=⟨d,none,.call f xs⟩) h2 rfl⟩),h3⟩
   ·refine ⟨_,⟨true,rfl,fn,k1,k2,ins,outs,res,[],_,h1,.inl rfl,fun h=>absurd rfl h,rfl⟩,.inr (.inl ⟨h2,fun k hk=>h3 k ?_⟩),h4⟩
    simpa [wrote,objsOf,Function.comp_def] using hk
  case inv f bp ty s xs=>obtain ⟨e,he,_⟩:=h;cases he
  all_goals exact W1F_of rfl h
theorem WDE_F {X:FX} {K:St → Prop}:∀ {l:List SO} {i:Nat} {σ:St},WDE P base X i l σ K → WDF P base X i l σ K
 | [],_,_,h=>h
 | so :: l,i,σ,h=>by
  obtain ⟨e,h1,h2,h3⟩:=W1E_F h
  exact ⟨e,h1,h2,WDE_F h3⟩
theorem W_dregE {anc:List Nat} {l:List SO} {Q:SEx → St → Prop} (i0:Nat) (kf:List Nat) (h:WDE P base ⟨anc,l.length,i0,kf⟩ 0 l σ (realC Q)):W P base (.dreg anc l) σ Q:=W_dregF i0 kf (WDE_F h)
def eC (P:Program) (base:Nat) (X:FX) (i:Nat) (l:List SO) (K:St → Prop) (σ:St):Prop:=WDE P base X i l σ K
@[simp] theorem eC_ap (X:FX) (i:Nat) (l:List SO) (K:St → Prop):eC P base X i l K σ=WDE P base X i l σ K:=rfl
@[simp] theorem WDE_nil (X:FX) (i:Nat) (K:St → Prop):WDE P base X i [] σ K=K σ:=rfl
@[simp] theorem WDE_call (X:FX) (i:Nat) (d:Option Nat) (f:SArg) (xs:List SArg) (l:List SO) (K:St → Prop):WDE P base X i (⟨d,none,.call f xs⟩ :: l) σ K=FCall P base X i (σ.ev f) (xs.map σ.ev) σ d (eC P base X (i + 1) l K):=rfl
theorem W1E_op (X:FX) (i:Nat) (d:Option Nat) (op:SOp) (K:St → Prop) (h:op.isCall=false):W1E P base X i ⟨d,none,op⟩ σ K=WEF P base X i (ev1 (base + d.getD 0) σ.ev σ op) (cond true σ.ev σ op) (op.args.map σ.ev) σ d K:=by
 cases op <;> first
  | (simp [SOp.isCall] at h;done)
  | rfl
def W1E' (P:Program) (base:Nat) (X:FX) (i:Nat) (so:SO) (σ:St) (K:St → Prop):Prop:=W1E P base X i so σ K
@[simp] theorem W1Ec (X:FX) (i:Nat) (d:Option Nat) (f:SArg) (xs:List SArg) (K:St → Prop):W1E' P base X i ⟨d,none,.call f xs⟩ σ K=FCall P base X i (σ.ev f) (xs.map σ.ev) σ d K:=rfl
@[simp] theorem WDE_op (X:FX) (i:Nat) (d:Option Nat) (op:SOp) (l:List SO) (K:St → Prop):WDE P base X i (⟨d,none,op⟩ :: l) σ K =
  if op.isCall=true then W1E' P base X i ⟨d,none,op⟩ σ (eC P base X (i + 1) l K) else WEF P base X i (ev1 (base + d.getD 0) σ.ev σ op) (cond true σ.ev σ op) (op.args.map σ.ev) σ d (eC P base X (i + 1) l K):=by
 by_cases h:op.isCall=true
 ·rw [if_pos h];rfl
 ·rw [if_neg h];exact W1E_op X i d op _ (by simpa using h)
@[simp] theorem WEF_pure (X:FX) (i d:Nat) (v:AV) (c:Prop) (xs:List AV) (K:St → Prop):WEF P base X i (some (Eff.pure v)) c xs σ (some d) K=(c ∧ (bar X.anc X.n i=true ∨ i=X.i0 ∨ X.rel i=true ∨ seesF X.kf (base + d) xs []) ∧ K (σ.set d v)):=by
 simp [WEF,wrote]
@[simp] theorem WEF_look (X:FX) (i d:Nat) (v:AV) (rd:List Nat) (c:Prop) (xs:List AV) (K:St → Prop):WEF P base X i (some (Eff.look v rd)) c xs σ (some d) K=(c ∧ (bar X.anc X.n i=true ∨ i=X.i0 ∨ X.rel i=true ∨ seesF X.kf (base + d) xs rd) ∧ K (σ.set d v)):=by
 simp [WEF,wrote]
@[simp] theorem WEF_new (X:FX) (i d k:Nat) (v:AV) (o:Obj) (rd:List Nat) (c:Prop) (xs:List AV) (K:St → Prop):WEF P base X i (some ⟨v,[k],[(k,o)],rd⟩) c xs σ (some d) K=(c ∧ (bar X.anc X.n i=true ∨ (i=X.i0 ∧ k ∈ X.kf)) ∧ K ((σ.new k o).set d v)):=by
 simp [WEF,wrote]
@[simp] theorem WEF_put (X:FX) (i k:Nat) (v:AV) (o:Obj) (rd:List Nat) (c:Prop) (xs:List AV) (K:St → Prop):WEF P base X i (some ⟨v,[],[(k,o)],rd⟩) c xs σ none K=(c ∧ (bar X.anc X.n i=true ∨ (i=X.i0 ∧ k ∈ X.kf)) ∧ K (σ.puto k o)):=by
 simp [WEF,wrote]
@[simp] theorem seesF_eq (kf:List Nat) (own:Nat) (xs:List AV) (rd:List Nat):seesF kf own xs rd=(own ∉ kf ∧ (∀ x,x ∈ xs → ∀ k,k ∈ (un x).keys2 → k ∉ kf) ∧ ∀ k,k ∈ rd → k ∉ kf):=rfl
@[congr] theorem WEF_congr {X:FX} {i:Nat} {o o':Option Eff} {c c':Prop} {xs xs':List AV} {σ σ':St} {d:Option Nat} {K:St → Prop} (h1:o=o') (h2:c=c') (h3:xs=xs') (h4:σ=σ'):WEF P base X i o c xs σ d K=WEF P base X i o' c' xs' σ' d K:=by rw [h1,h2,h3,h4]
@[congr] theorem FCall_congr {X:FX} {i:Nat} {fv fv':AV} {xs xs':List AV} {σ σ':St} {d:Option Nat} {K:St → Prop} (h1:fv=fv') (h2:xs=xs') (h3:σ=σ'):FCall P base X i fv xs σ d K=FCall P base X i fv' xs' σ' d K:=by rw [h1,h2,h3]
theorem FCall.fn {X:FX} {i d fn:Nat} {xs args:List AV} {res:AV} {K:St → Prop} (hs:Fn P fn args res) (ha:xs.map (fun x=>toD2 σ (un x))=args) (h2:∀ x,x ∈ xs → gok true x) (h4:res.keys2=[])
  (h5:base + d ∉ X.kf) (h6:∀ x,x ∈ xs → ∀ k,k ∈ (un x).keys2 → k ∉ X.kf) (hK:K (σ.set d res)):FCall P base X i (.c (.clo fn [] [])) xs σ (some d) K:=by
 subst ha
 refine .inl ⟨fn,res,call_sem rfl trivial h2 (fun _=>hs) h4,.inr ⟨h5,fun x hx=>?_,by simp⟩,hK⟩
 rcases List.mem_cons.1 hx with rfl | hx
 ·simp [AV.keys2,AV.keys1,Cell.keys]
 ·exact h6 x hx
@[simp] theorem k2_v (v:Value):AV.keys2 (.c (.v v))=[]:=rfl
@[simp] theorem k2_ref (k t off:Nat):AV.keys2 (.c (.ref k t off))=[k]:=rfl
@[simp] theorem k2_own (k t:Nat):AV.keys2 (.c (.own k t))=[k]:=rfl
@[simp] theorem k2_elw (k t sz i j:Nat):AV.keys2 (.c (.elw k t sz i j))=[k]:=rfl
@[simp] theorem k2_sl (sz bs:Nat) (es:List (List Cell)):AV.keys2 (.c (.sl sz bs es))=[]:=rfl
@[simp] theorem k2_cap (sz bs:Nat) (es:List (List Cell)):AV.keys2 (.c (.cap sz bs es))=[]:=rfl
@[simp] theorem k2_elp (cs:List Cell) (j:Nat):AV.keys2 (.c (.elp cs j))=[]:=rfl
@[simp] theorem k2_agg (cs:List Cell):AV.keys2 (.agg cs)=keysCs cs:=rfl
@[simp] theorem k1_agg (cs:List Cell):AV.keys1 (.agg cs)=keysCs cs:=rfl
@[simp] theorem k1_v (v:Value):AV.keys1 (.c (.v v))=[]:=rfl
@[simp] theorem k1_sl (sz bs:Nat) (es:List (List Cell)):AV.keys1 (.c (.sl sz bs es))=[]:=rfl
@[simp] theorem k1_cap (sz bs:Nat) (es:List (List Cell)):AV.keys1 (.c (.cap sz bs es))=[]:=rfl
end Go.Abs

namespace Go.Abs
variable {P:Program} {base:Nat} {σ:St} {key:Nat} {ρ:SArg → AV} {β:Bool}
def St.puts (σ:St) (l:Objs):St:={ σ with ob:=fun k=>match l.lookup k with | some (_,q)=>some q | none=>σ.ob k }
@[simp] theorem puts_sl (l:Objs):(σ.puts l).sl=σ.sl:=rfl
@[simp] theorem puts_tg (l:Objs):(σ.puts l).tg=σ.tg:=rfl
theorem puts_some {l:Objs} {k t:Nat} {q:Obj} (h:l.lookup k=some (t,q)):(σ.puts l).ob k=some q:=by simp only [St.puts,h]
theorem puts_none {l:Objs} {k:Nat} (h:l.lookup k=none):(σ.puts l).ob k=σ.ob k:=by simp only [St.puts,h]
theorem ap_puts (d:Nat) (v:AV) (l:Objs) (rd:List Nat):σ.ap (some d) ⟨v,[],objsOf l,rd⟩=(σ.puts l).set d v:=by
 refine st_ext (fun s=>rfl) (fun k=>?_) fun k=>rfl
 simp only [St.ap,obAfter,St.puts,St.set,lookup_objsOf]
 cases l.lookup k with
 | none=>rfl
 | some x=>rfl
def Holds (σ:St) (l:Objs):Prop:=∀ k t q,l.lookup k=some (t,q) → σ.ob k=some q ∧ σ.tg k=t
structure Kin (l m:Objs):Prop where
 there:∀ k t q,l.lookup k=some (t,q) → ∃ q',m.lookup k=some (t,q')
 back:∀ k t q,m.lookup k=some (t,q) → ∃ q',l.lookup k=some (t,q')
 data:∀ k t q,m.lookup k=some (t,q) → q.keys=[]
theorem obj_sem {fv:AV} {xs:List AV} {fn:Nat} {rs:List (Nat × Nat)} {ins outs:Objs} {res:AV} (h0:un fv=.c (.clo fn [] rs)) (h1:gok true fv) (h2:∀ x,x ∈ xs → gok true x)
  (h3:Spec P fn (xs.map (fun x=>toD2 σ (un x)) ++ refs rs) ins res outs) (h4:res.keys2=[]) (hh:Holds σ ins) (hk:Kin ins outs):CallSem P σ true fv xs fn [] rs ins outs res [] where
 c0:=h0
 gf:=h1
 gx:=h2
 cs _:=by simpa [refs] using h3
 ci k t q h:=by
  obtain ⟨a,b⟩:=hh k t q h
  obtain ⟨q',hq⟩:=hk.there k t q h
  exact ⟨a,b,by rw [hq];rfl⟩
 co k t q h:=by
  obtain ⟨q',hq⟩:=hk.back k t q h
  exact .inr ⟨by simp,(hh k t q' hq).2.symm,q',hq⟩
 cp k h:=by simp at h
 kres k h:=by rw [h4] at h;cases h
 kobs k t q h:=by
  intro k' hk'
  rw [hk.data k t q h] at hk'
  cases hk'
theorem ECall.obj {d fn:Nat} {rs:List (Nat × Nat)} {xs args:List AV} {ins outs:Objs} {res:AV} {K:St → Prop} (hs:Spec P fn (args ++ refs rs) ins res outs) (ha:xs.map (fun x=>toD2 σ (un x))=args)
  (h2:∀ x,x ∈ xs → gok true x) (h4:res.keys2=[]) (hh:Holds σ ins) (hk:Kin ins outs) (hK:RealA res → K ((σ.puts outs).set d res)):ECall P σ (.c (.clo fn [] rs)) xs (some d) K:=by
 subst ha
 refine ⟨fn,[],rs,ins,outs,res,[],_,obj_sem rfl trivial h2 hs h4 hh hk,.inl rfl,fun h=>?_⟩
 rw [ap_puts]
 exact hK (h d rfl)
theorem FCall.obj {X:FX} {i d fn:Nat} {rs:List (Nat × Nat)} {xs args:List AV} {ins outs:Objs} {res:AV} {K:St → Prop} (hi:i=X.i0) (hs:Spec P fn (args ++ refs rs) ins res outs) (ha:xs.map (fun x=>toD2 σ (un x))=args)
  (h2:∀ x,x ∈ xs → gok true x) (h4:res.keys2=[]) (hh:Holds σ ins) (hk:Kin ins outs) (hX:∀ k,k ∈ outs.map (·.1) → k ∈ X.kf) (hK:K ((σ.puts outs).set d res)):FCall P base X i (.c (.clo fn [] rs)) xs σ (some d) K:=by
 subst ha
 refine .inr ⟨fn,[],rs,ins,outs,res,obj_sem rfl trivial h2 hs h4 hh hk,hi,hX,?_⟩
 rw [ap_puts]
 exact hK
end Go.Abs

namespace Go.Abs
variable {P:Program} {base:Nat} {σ:St} {key:Nat} {ρ:SArg → AV} {β:Bool}
def relA (anc:List Nat) (i j:Nat):Bool:=(anc.getD j 0).testBit i || (anc.getD i 0).testBit j
def okTab (anc:List Nat) (n:Nat) (ws fs:List (List Nat)):Bool:=
 (List.range n).all fun i=>match ws.getD i [] with
  | []=>true
  | l=>(List.range n).all fun j=>decide (i=j) || relA anc i j || l.all fun k=>(fs.getD j []).contains k
theorem okTab_spec {anc:List Nat} {n:Nat} {ws fs:List (List Nat)} (h:okTab anc n ws fs=true) {i j k:Nat} (hi:i < n) (hj:j < n) (hk:k ∈ ws.getD i []):i=j ∨ relA anc i j=true ∨ k ∈ fs.getD j []:=by
 simp only [okTab,List.all_eq_true,List.mem_range] at h
 have h1:=h i hi
 split at h1
 ·rename_i e;rw [e] at hk;cases hk
 ·have h2:=List.all_eq_true.1 h1 j (List.mem_range.2 hj)
  simp only [Bool.or_eq_true,decide_eq_true_eq] at h2
  rcases h2 with (h2 | h2) | h2
  ·exact .inl h2
  ·exact .inr (.inl h2)
  ·refine .inr (.inr ?_)
   have h3:=List.all_eq_true.1 h2 k hk
   simpa using h3
def okLk (fb:List Nat) (l:List Nat):Prop:=∀ k,k ∈ fb → k ∉ l
@[simp] theorem okLk_nil (l:List Nat):okLk [] l=True:=by simp [okLk]
@[simp] theorem okLk_cons (k:Nat) (fb l:List Nat):okLk (k :: fb) l=(k ∉ l ∧ okLk fb l):=by simp [okLk]
def W1D (P:Program) (base:Nat) (wk fb:List Nat) (so:SO) (σ:St) (K:St → Prop):Prop:=∃ e,SemO P base so σ e ∧ (∀ k,k ∈ wrote e → k ∈ wk) ∧ okLk fb (lkOf base so σ e) ∧ K (σ.ap so.dst e)
def WDD (P:Program) (base:Nat):List SO → List (List Nat) → List (List Nat) → St → (St → Prop) → Prop
 | [],_,_,σ,K=>K σ
 | so :: l,wk :: ws,fb :: fs,σ,K=>W1D P base wk fb so σ fun σ'=>WDD P base l ws fs σ' K
 | _ :: _,_,_,_,_=>False
theorem fineW_D {anc:List Nat} {n:Nat} {ws fs:List (List Nat)} (ht:okTab anc n ws fs=true) {tr:List TE} (h1:∀ x,x ∈ tr → x.i < n) (h2:∀ x,x ∈ tr → (∀ k,k ∈ x.wr → k ∈ ws.getD x.i []) ∧ ∀ k,k ∈ fs.getD x.i [] → k ∉ x.lk):fineW anc tr=true:=by
 simp only [fineW,List.all_eq_true,List.mem_filter]
 rintro x ⟨hx,hw⟩ y hy
 simp only [Bool.or_eq_true,decide_eq_true_eq]
 by_cases e:x.i=y.i
 ·exact .inl (.inl (.inl e))
 by_cases r:relA anc x.i y.i=true
 ·simp only [relA,Bool.or_eq_true] at r
  rcases r with r | r
  ·exact .inl (.inl (.inr r))
  ·exact .inl (.inr r)
 have r':¬ relA anc y.i x.i=true:=by
  intro h;apply r
  simp only [relA,Bool.or_eq_true] at h ⊢
  exact h.symm
 refine .inr ?_
 simp only [kOK,Bool.and_eq_true,List.all_eq_true]
 constructor
 ·intro k hk
  rcases okTab_spec ht (h1 x hx) (h1 y hy) ((h2 x hx).1 k hk) with h | h | h
  ·exact absurd h e
  ·exact absurd h r
  ·simpa using (h2 y hy).2 k h
 ·intro k hk
  rcases okTab_spec ht (h1 y hy) (h1 x hx) ((h2 y hy).1 k hk) with h | h | h
  ·exact absurd h.symm e
  ·exact absurd h r'
  ·simpa using (h2 x hx).2 k h
theorem WDD_WD {anc:List Nat} {n:Nat} {ws fs:List (List Nat)} (ht:okTab anc n ws fs=true) {K:St → Prop}:∀ {l:List SO} {i:Nat} {σ:St} {tr:List TE},i + l.length=n → (∀ x,x ∈ tr → x.i < n) →
  (∀ x,x ∈ tr → (∀ k,k ∈ x.wr → k ∈ ws.getD x.i []) ∧ ∀ k,k ∈ fs.getD x.i [] → k ∉ x.lk) → WDD P base l (ws.drop i) (fs.drop i) σ K → WD P base anc i l σ tr K
 | [],i,σ,tr,_,h1,h2,h=>⟨fineW_D ht (by simpa using h1) (by simpa using h2),h⟩
 | so :: l,i,σ,tr,hn,h1,h2,h=>by
  cases hw:ws.drop i with
  | nil=>rw [hw] at h;exact h.elim
  | cons wk ws'=>
   cases hf:fs.drop i with
   | nil=>rw [hw,hf] at h;exact h.elim
   | cons fb fs'=>
    rw [hw,hf] at h
    obtain ⟨e,h3,h4,h5,h6⟩:=h
    have ew:ws.getD i []=wk:=by
     have:(ws.drop i)[0]? = some wk:=by rw [hw];rfl
     rw [List.getElem?_drop] at this
     simp only [Nat.add_zero] at this
     simp [List.getD,this]
    have ef:fs.getD i []=fb:=by
     have:(fs.drop i)[0]? = some fb:=by rw [hf];rfl
     rw [List.getElem?_drop] at this
     simp only [Nat.add_zero] at this
     simp [List.getD,this]
    have dw:ws.drop (i + 1)=ws':=by rw [← List.drop_drop,hw];rfl
    have df:fs.drop (i + 1)=fs':=by rw [← List.drop_drop,hf];rfl
    refine ⟨e,h3,WDD_WD ht (by simp at hn;omega) (fun x hx=>?_) (fun x hx=>?_) (by rw [dw,df];exact h6)⟩
    ·rcases List.mem_cons.1 hx with rfl | hx
     ·simp at hn ⊢;omega
     ·exact h1 x hx
    ·rcases List.mem_cons.1 hx with rfl | hx
     ·exact ⟨by rw [ew];exact h4,by rw [ef];exact h5⟩
     ·exact h2 x hx
theorem W_dregD {anc:List Nat} {l:List SO} {Q:SEx → St → Prop} (ws fs:List (List Nat)) (ht:okTab anc l.length ws fs=true) (h:WDD P base l ws fs σ (realC Q)):W P base (.dreg anc l) σ Q:=
 WDD_WD ht (i:=0) (tr:=[]) (by simp) (by simp) (by simp) h
def dD (P:Program) (base:Nat) (l:List SO) (ws fs:List (List Nat)) (K:St → Prop) (σ:St):Prop:=WDD P base l ws fs σ K
@[simp] theorem dD_ap (l:List SO) (ws fs:List (List Nat)) (K:St → Prop):dD P base l ws fs K σ=WDD P base l ws fs σ K:=rfl
@[simp] theorem WDD_nil (ws fs:List (List Nat)) (K:St → Prop):WDD P base [] ws fs σ K=K σ:=by cases ws <;> cases fs <;> rfl
@[simp] theorem WDD_cons (so:SO) (l:List SO) (wk fb:List Nat) (ws fs:List (List Nat)) (K:St → Prop):WDD P base (so :: l) (wk :: ws) (fb :: fs) σ K=W1D P base wk fb so σ (dD P base l ws fs K):=rfl
@[congr] theorem WDD_congr {l:List SO} {ws fs:List (List Nat)} {σ σ':St} {K:St → Prop} (h:σ=σ'):WDD P base l ws fs σ K=WDD P base l ws fs σ' K:=by rw [h]
@[congr] theorem W1D_congr {wk fb:List Nat} {so:SO} {σ σ':St} {K:St → Prop} (h2:σ=σ'):W1D P base wk fb so σ K=W1D P base wk fb so σ' K:=by rw [h2]
def WED (wk fb:List Nat) (own:Nat) (xs:List AV) (o:Option Eff) (c:Prop) (σ:St) (d:Option Nat) (K:St → Prop):Prop:=
 ∃ e,o=some e ∧ c ∧ (∀ k,k ∈ wrote e → k ∈ wk) ∧ okLk fb (own :: (xs.flatMap (fun x=>(un x).keys2) ++ e.rd ++ wrote e)) ∧ K (σ.ap d e)
@[congr] theorem WED_congr {wk fb:List Nat} {own:Nat} {xs xs':List AV} {o o':Option Eff} {c c':Prop} {σ σ':St} {d:Option Nat} {K:St → Prop} (h1:xs=xs') (h2:o=o') (h3:c=c') (h4:σ=σ'):WED wk fb own xs o c σ d K=WED wk fb own xs' o' c' σ' d K:=by rw [h1,h2,h3,h4]
@[simp] theorem WED_pure (wk fb:List Nat) (own:Nat) (xs:List AV) (v:AV) (c:Prop) (d:Nat) (K:St → Prop):WED wk fb own xs (some (Eff.pure v)) c σ (some d) K=(c ∧ okLk fb (own :: xs.flatMap (fun x=>(un x).keys2)) ∧ K (σ.set d v)):=by simp [WED,wrote,Eff.pure]
@[simp] theorem WED_look (wk fb:List Nat) (own:Nat) (xs:List AV) (v:AV) (rd:List Nat) (c:Prop) (d:Nat) (K:St → Prop):WED wk fb own xs (some (Eff.look v rd)) c σ (some d) K=(c ∧ okLk fb (own :: (xs.flatMap (fun x=>(un x).keys2) ++ rd)) ∧ K (σ.set d v)):=by simp [WED,wrote,Eff.look]
@[simp] theorem WED_new (wk fb:List Nat) (own:Nat) (xs:List AV) (v:AV) (k:Nat) (o:Obj) (rd:List Nat) (c:Prop) (d:Nat) (K:St → Prop):WED wk fb own xs (some ⟨v,[k],[(k,o)],rd⟩) c σ (some d) K=(c ∧ k ∈ wk ∧ okLk fb (own :: (xs.flatMap (fun x=>(un x).keys2) ++ rd ++ [k,k])) ∧ K ((σ.new k o).set d v)):=by simp [WED,wrote]
@[simp] theorem WED_put (wk fb:List Nat) (own:Nat) (xs:List AV) (v:AV) (k:Nat) (o:Obj) (rd:List Nat) (c:Prop) (K:St → Prop):WED wk fb own xs (some ⟨v,[],[(k,o)],rd⟩) c σ none K=(c ∧ k ∈ wk ∧ okLk fb (own :: (xs.flatMap (fun x=>(un x).keys2) ++ rd ++ [k])) ∧ K (σ.puto k o)):=by simp [WED,wrote]
@[simp] theorem WED_app (wk fb:List Nat) (own:Nat) (xs:List AV) (v:AV) (k k':Nat) (o:Obj) (rd:List Nat) (c:Prop) (d:Nat) (K:St → Prop):WED wk fb own xs (some ⟨v,[k,k'],[(k,o)],rd⟩) c σ (some d) K=(c ∧ (k ∈ wk ∧ k' ∈ wk) ∧ okLk fb (own :: (xs.flatMap (fun x=>(un x).keys2) ++ rd ++ [k,k',k])) ∧ K (if k=k' then (σ.new k o).set d v else ((σ.del k').new k o).set d v)):=by
 have e:(∀ x,(x=k ∨ x=k') ∨ x=k → x ∈ wk) ↔ (k ∈ wk ∧ k' ∈ wk):=⟨fun h=>⟨h k (by simp),h k' (by simp)⟩,fun h x hx=>by rcases hx with (rfl | rfl) | rfl <;> simp [h]⟩
 simp [WED,wrote,e]
@[simp] theorem WED_none (wk fb:List Nat) (own:Nat) (xs:List AV) (c:Prop) (d:Option Nat) (K:St → Prop):WED wk fb own xs none c σ d K=False:=by simp [WED]
def WGD (wk fb:List Nat) (own:Nat) (xs:List AV) (o:Option Eff) (c:Prop) (β:Bool) (σ:St) (d:Option Nat) (K:St → Prop):Prop:=
 ∃ e,gW β o=some e ∧ gC c o ∧ (∀ k,k ∈ wrote (gE β e) → k ∈ wk) ∧ okLk fb (own :: (xs.flatMap (fun x=>(un x).keys2) ++ e.rd ++ wrote (gE β e))) ∧ K (σ.ap d (gE β e))
@[congr] theorem WGD_congr {wk fb:List Nat} {own:Nat} {xs xs':List AV} {o o':Option Eff} {c c':Prop} {β β':Bool} {σ σ':St} {d:Option Nat} {K:St → Prop} (h1:xs=xs') (h2:o=o') (h3:c=c') (h5:β=β') (h4:σ=σ'):WGD wk fb own xs o c β σ d K=WGD wk fb own xs' o' c' β' σ' d K:=by rw [h1,h2,h3,h4,h5]
@[simp] theorem WGD_pure (wk fb:List Nat) (own:Nat) (xs:List AV) (v:AV) (c:Prop) (β:Bool) (d:Nat) (K:St → Prop):WGD wk fb own xs (some (Eff.pure v)) c β σ (some d) K=(c ∧ okLk fb (own :: xs.flatMap (fun x=>(un x).keys2)) ∧ K (σ.set d (.gd β v))):=by simp [WGD,Eff.pure,gE,wrote]
@[simp] theorem WGD_skip (wk fb:List Nat) (own:Nat) (xs:List AV) (c:Prop) (d:Nat) (K:St → Prop):WGD wk fb own xs none c false σ (some d) K=(okLk fb (own :: xs.flatMap (fun x=>(un x).keys2)) ∧ K (σ.set d (.gd false (.c (.v (.bool false)))))):=by simp [WGD,gW,gC,gdD0,Eff.pure,gE,wrote]
@[simp] theorem WGD_look (wk fb:List Nat) (own:Nat) (xs:List AV) (v:AV) (rd:List Nat) (c:Prop) (β:Bool) (d:Nat) (K:St → Prop):WGD wk fb own xs (some (Eff.look v rd)) c β σ (some d) K=(c ∧ okLk fb (own :: (xs.flatMap (fun x=>(un x).keys2) ++ rd)) ∧ K (σ.set d (.gd β v))):=by simp [WGD,Eff.look,gE,wrote]
@[simp low] theorem WGD_f (wk fb:List Nat) (own:Nat) (xs:List AV) (v:AV) (pur:List Nat) (put:List (Nat × Obj)) (rd:List Nat) (c:Prop) (d:Option Nat) (K:St → Prop):WGD wk fb own xs (some ⟨v,pur,put,rd⟩) c false σ d K=(c ∧ okLk fb (own :: (xs.flatMap (fun x=>(un x).keys2) ++ rd)) ∧ K (σ.ap d ⟨.gd false v,[],[],rd⟩)):=by simp [WGD,wrote]
@[simp low] theorem WGD_t (wk fb:List Nat) (own:Nat) (xs:List AV) (v:AV) (pur:List Nat) (put:List (Nat × Obj)) (rd:List Nat) (c:Prop) (d:Option Nat) (K:St → Prop):WGD wk fb own xs (some ⟨v,pur,put,rd⟩) c true σ d K=(c ∧ (∀ k,k ∈ pur ++ put.map (·.1) → k ∈ wk) ∧ okLk fb (own :: (xs.flatMap (fun x=>(un x).keys2) ++ rd ++ (pur ++ put.map (·.1)))) ∧ K (σ.ap d ⟨.gd true v,pur,put,rd⟩)):=by simp [WGD,wrote]
def CallD (P:Program) (wk fb:List Nat) (own:Nat) (σ:St) (fv:AV) (xs:List AV) (d:Option Nat) (K:St → Prop):Prop:=
 ∃ fn k1 k2 ins outs res pur ps,CallSem P σ true fv xs fn k1 k2 ins outs res pur ∧ PutOf ins outs pur ps ∧ (∀ k,k ∈ pur ++ ps.map (·.1) → k ∈ wk) ∧ okLk fb (own :: ((fv :: xs).flatMap (fun x=>(un x).keys2) ++ ins.map (·.1) ++ (pur ++ ps.map (·.1)))) ∧ K (σ.ap d ⟨res,pur,ps,ins.map (·.1)⟩)
def GCallD (P:Program) (fb:List Nat) (own:Nat) (σ:St) (β:Bool) (fv:AV) (xs:List AV) (d:Option Nat) (K:St → Prop):Prop:=
 ∃ fn k1 k2 ins outs res,CallSem P σ β fv xs fn k1 k2 ins outs res [] ∧ PutOf ins outs [] [] ∧ okLk fb (own :: ((fv :: xs).flatMap (fun x=>(un x).keys2) ++ ins.map (·.1))) ∧ K (σ.ap d ⟨.gd β res,[],[],ins.map (·.1)⟩)
@[congr] theorem CallD_congr {wk fb:List Nat} {own:Nat} {σ σ':St} {fv fv':AV} {xs xs':List AV} {d:Option Nat} {K:St → Prop} (h:σ=σ') (h1:fv=fv') (h2:xs=xs'):CallD P wk fb own σ fv xs d K=CallD P wk fb own σ' fv' xs' d K:=by rw [h,h1,h2]
@[congr] theorem GCallD_congr {fb:List Nat} {own:Nat} {σ σ':St} {β β':Bool} {fv fv':AV} {xs xs':List AV} {d:Option Nat} {K:St → Prop} (h:σ=σ') (h0:β=β') (h1:fv=fv') (h2:xs=xs'):GCallD P fb own σ β fv xs d K=GCallD P fb own σ' β' fv' xs' d K:=by rw [h,h0,h1,h2]
theorem CallD.fn {wk fb:List Nat} {own d fn:Nat} {xs args:List AV} {res:AV} {K:St → Prop} (hs:Fn P fn args res) (ha:xs.map (fun x=>toD2 σ (un x))=args)
  (h2:∀ x,x ∈ xs → gok true x) (h4:res.keys2=[]) (h5:okLk fb (own :: xs.flatMap (fun x=>(un x).keys2))) (hK:K (σ.set d res)):CallD P wk fb own σ (.c (.clo fn [] [])) xs (some d) K:=by
 subst ha
 refine ⟨fn,[],[],[],[],res,[],[],call_sem rfl trivial h2 (fun _=>hs) h4,.inl rfl,by simp,?_,hK⟩
 intro k hk
 have:=h5 k hk
 simpa [objsOf,AV.keys2,AV.keys1,Cell.keys] using this
theorem GCallD.fn {fb:List Nat} {own d fn:Nat} {β:Bool} {xs args:List AV} {res:AV} {K:St → Prop} (hs:β=true → Fn P fn args res) (ha:xs.map (fun x=>toD2 σ (un x))=args)
  (h2:∀ x,x ∈ xs → gok β x) (h4:res.keys2=[]) (h5:okLk fb (own :: xs.flatMap (fun x=>(un x).keys2))) (hK:K (σ.set d (.gd β res))):GCallD P fb own σ β (.c (.clo fn [] [])) xs (some d) K:=by
 subst ha
 refine ⟨fn,[],[],[],[],res,call_sem rfl trivial h2 hs h4,.inl rfl,?_,hK⟩
 intro k hk
 have:=h5 k hk
 simpa [AV.keys2,AV.keys1,Cell.keys] using this
def WD1 (P:Program) (base:Nat) (wk fb:List Nat) (so:SO) (σ:St) (K:St → Prop):Prop:=W1D P base wk fb so σ K
@[congr] theorem WD1_congr {wk fb:List Nat} {so:SO} {σ σ':St} {K:St → Prop} (h2:σ=σ'):WD1 P base wk fb so σ K=WD1 P base wk fb so σ' K:=by rw [h2]
theorem opKeys_eq (op:SOp):opKeys σ op=(op.kargs.map σ.ev).flatMap (fun x=>(un x).keys2):=by simp [opKeys,List.flatMap_map]
theorem W1D_plain {wk fb:List Nat} {d:Option Nat} {op:SOp} {K:St → Prop} (h:op.isCall=false):W1D P base wk fb ⟨d,none,op⟩ σ K=WED wk fb (base + d.getD 0) (op.kargs.map σ.ev) (ev1 (base + d.getD 0) σ.ev σ op) (cond true σ.ev σ op) σ d K:=by
 apply propext
 cases op <;> first
  | (simp [SOp.isCall] at h;done)
  | skip
 all_goals
  simp only [W1D,SemO,gdOf,gEff_none,WED,lkOf,opKeys_eq,evG_none,condG_none]
  constructor
  ·rintro ⟨e,⟨β,hβ,e0,h1,h2,rfl⟩,h4,h5,h6⟩
   cases hβ
   exact ⟨_,h1,h2,h4,h5,h6⟩
  ·rintro ⟨e,h1,h2,h3,h4,h5⟩
   exact ⟨e,⟨true,rfl,e,h1,h2,rfl⟩,h3,h4,h5⟩
def gdD (base:Nat) (wk fb:List Nat) (op:SOp) (σ:St) (d:Option Nat) (K:St → Prop) (β:Bool):Prop:=WGD wk fb (base + d.getD 0) (op.kargs.map σ.ev) (ev1 (base + d.getD 0) σ.ev σ op) (cond β σ.ev σ op) β σ d K
@[simp] theorem gdD_ap (wk fb:List Nat) (op:SOp) (d:Option Nat) (K:St → Prop) (β:Bool):gdD base wk fb op σ d K β=WGD wk fb (base + d.getD 0) (op.kargs.map σ.ev) (ev1 (base + d.getD 0) σ.ev σ op) (cond β σ.ev σ op) β σ d K:=rfl
theorem W1D_gd {wk fb:List Nat} {d:Option Nat} {s:Nat} {want:Bool} {op:SOp} {K:St → Prop} (h:op.isCall=false):W1D P base wk fb ⟨d,some (s,want),op⟩ σ K=gbK (gb (σ.sl s) want) (gdD base wk fb op σ d K):=by
 apply propext
 cases op <;> first
  | (simp [SOp.isCall] at h;done)
  | skip
 all_goals
  simp only [W1D,SemO,gdOf,gEff_some,gbK,gdD,WGD,lkOf,opKeys_eq,evG_gW,condG_gC]
  constructor
  ·rintro ⟨e,⟨β,hβ,e0,h1,h2,rfl⟩,h4,h5,h6⟩
   exact ⟨β,hβ,e0,h1,h2,h4,h5,h6⟩
  ·rintro ⟨β,hβ,e,h1,h2,h3,h4,h5⟩
   exact ⟨gE β e,⟨β,hβ,e,h1,h2,rfl⟩,h3,h4,h5⟩
@[simp] theorem W1D_none {wk fb:List Nat} {d:Option Nat} {op:SOp} {K:St → Prop}:W1D P base wk fb ⟨d,none,op⟩ σ K=if op.isCall=true then WD1 P base wk fb ⟨d,none,op⟩ σ K else WED wk fb (base + d.getD 0) (op.kargs.map σ.ev) (ev1 (base + d.getD 0) σ.ev σ op) (cond true σ.ev σ op) σ d K:=by
 by_cases h:op.isCall=true
 ·rw [if_pos h];rfl
 ·rw [if_neg h];exact W1D_plain (by simpa using h)
@[simp] theorem W1D_some {wk fb:List Nat} {d:Option Nat} {s:Nat} {want:Bool} {op:SOp} {K:St → Prop}:W1D P base wk fb ⟨d,some (s,want),op⟩ σ K=if op.isCall=true then WD1 P base wk fb ⟨d,some (s,want),op⟩ σ K else gbK (gb (σ.sl s) want) (gdD base wk fb op σ d K):=by
 by_cases h:op.isCall=true
 ·rw [if_pos h];rfl
 ·rw [if_neg h];exact W1D_gd (by simpa using h)
theorem opKeys_call (f:SArg) (xs:List SArg):opKeys σ (.call f xs)=(σ.ev f :: xs.map σ.ev).flatMap (fun x=>(un x).keys2):=by rw [opKeys_eq];rfl
@[simp] theorem WD1_eq {wk fb:List Nat} {d:Option Nat} {f:SArg} {xs:List SArg} {K:St → Prop}:WD1 P base wk fb ⟨d,none,.call f xs⟩ σ K=CallD P wk fb (base + d.getD 0) σ (σ.ev f) (xs.map σ.ev) d K:=by
 apply propext
 simp only [WD1,W1D,SemO,gdOf,mkGd,CallD,lkOf,opKeys_call,wrote]
 constructor
 ·rintro ⟨e,⟨β,hβ,fn,k1,k2,ins,outs,res,pur,ps,h1,hp,_,rfl⟩,h2,h3,h4⟩
  cases hβ
  exact ⟨fn,k1,k2,ins,outs,res,pur,ps,h1,hp,h2,h3,h4⟩
 ·rintro ⟨fn,k1,k2,ins,outs,res,pur,ps,h1,hp,h2,h3,h4⟩
  exact ⟨_,⟨true,rfl,fn,k1,k2,ins,outs,res,pur,ps,h1,hp,fun h=>absurd rfl h,rfl⟩,h2,h3,h4⟩
def gcD (P:Program) (fb:List Nat) (own:Nat) (σ:St) (fv:AV) (xs:List AV) (d:Option Nat) (K:St → Prop) (β:Bool):Prop:=GCallD P fb own σ β fv xs d K
@[simp] theorem gcD_ap (fb:List Nat) (own:Nat) (fv:AV) (xs:List AV) (d:Option Nat) (K:St → Prop) (β:Bool):gcD P fb own σ fv xs d K β=GCallD P fb own σ β fv xs d K:=rfl
@[simp] theorem WD1G_eq {wk fb:List Nat} {d:Option Nat} {s:Nat} {want:Bool} {f:SArg} {xs:List SArg} {K:St → Prop}:WD1 P base wk fb ⟨d,some (s,want),.call f xs⟩ σ K=gbK (gb (σ.sl s) want) (gcD P fb (base + d.getD 0) σ (σ.ev f) (xs.map σ.ev) d K):=by
 apply propext
 simp only [WD1,W1D,SemO,gdOf,mkGd,gbK,gcD,GCallD,lkOf,opKeys_call,wrote]
 constructor
 ·rintro ⟨e,⟨β,hβ,fn,k1,k2,ins,outs,res,pur,ps,h1,hp,hg,rfl⟩,h2,h3,h4⟩
  obtain ⟨rfl,rfl⟩:=hg (by simp)
  exact ⟨β,hβ,fn,k1,k2,ins,outs,res,h1,hp,by simpa using h3,h4⟩
 ·rintro ⟨β,hβ,fn,k1,k2,ins,outs,res,h1,hp,h3,h4⟩
  exact ⟨_,⟨β,hβ,fn,k1,k2,ins,outs,res,[],[],h1,hp,fun _=>⟨rfl,rfl⟩,rfl⟩,by simp,by simpa using h3,h4⟩
attribute [simp] SOp.args SOp.kargs
end Go.Abs

namespace Go.Abs
variable {P:Program} {I:Init} {n base:Nat} {σ σ':St} {g g':Gh} {a:Act} {w w':World} {e:Eff}
def Cell.sub (k t:Nat):Cell → Cell
 | .own _ _=>.own k t
 | c=>c
def AV.sub1 (k t:Nat):AV → AV
 | .c x=>.c (x.sub k t)
 | .agg cs=>.agg (cs.map (Cell.sub k t))
 | x=>x
def AV.sub (k t:Nat):AV → AV
 | .tup l=>.tup (l.map (AV.sub1 k t))
 | x=>x.sub1 k t
def Cell.pat:Cell → Bool
 | .ref ..=>false
 | .elw ..=>false
 | .mp ..=>false
 | .itr ..=>false
 | .ifc ..=>false
 | .sob ..=>false
 | .clo _ a b=>a.isEmpty && b.isEmpty
 | _=>true
def AV.pat1:AV → Bool
 | .c x=>x.pat
 | .agg cs=>cs.all Cell.pat
 | _=>true
def AV.pat:AV → Bool
 | .tup l=>l.all AV.pat1
 | x=>x.pat1
def SpecNew (P:Program) (f:Nat) (args:List AV) (pat:AV) (q:Obj):Prop:=∀ k t:Nat,Spec P f args [] (pat.sub k t) [(k,t,q)]
def rrEvN (σ:St):RR → Option AV
 | .t s=>some (un (σ.sl s))
 | .c1 a=>match loadAt σ true 0 (un (σ.sl a)) with
  | some e=>some e.val
  | none=>none
 | .cn a m=>match loadAt σ false m (un (σ.sl a)) with
  | some e=>some e.val
  | none=>none
def resLN (σ:St):List RR → Option (List AV)
 | []=>some []
 | r :: l=>match rrEvN σ r,resLN σ l with
  | some x,some y=>if isV1 x then some (x :: y) else none
  | _,_=>none
def resN (σ:St) (l:List RR):Option AV:=match resLN σ l with
 | some [x]=>some x
 | some xs=>some (.tup xs)
 | none=>none
inductive Ado:St → St → Prop where
 | refl (σ:St):Ado σ σ
 | step {σ σ':St} (s key ty sz bs:Nat) (es:List (List Cell)) (h:σ.sl s=.c (.cap sz bs es)) (k:Ado ((σ.new key (.row ty sz bs es)).set s (.c (.own key (σ.tg key + 1)))) σ'):Ado σ σ'
theorem RC.sub {g g2:Gh} {w:World} {k0 k t:Nat} {c:Cell} {y:Value} (hc:c.pat=true) (hs:g2.st=g.st) (hl:g2.lo=g.lo) (ht:g2.tg k=t) (hr:g2.rv k=g.rv k0) (h:RC g w (c.sub k0 (g.tg k0)) y):RC g2 w (c.sub k t) y:=by
 have hk:Kp g w g2 w:=⟨fun ad h=>⟨by rw [hs];exact h,rfl⟩,hl,fun _ _ _ _ _ h=>h⟩
 cases c with
 | own k' t'=>
  obtain ⟨h0,h1,h2⟩:=h
  exact ⟨h0,by rw [ht];exact Nat.le_refl _,fun _=>by rw [hr];exact h2 rfl⟩
 | ref=>cases hc
 | elw=>cases hc
 | mp=>cases hc
 | itr=>cases hc
 | ifc=>cases hc
 | sob=>cases hc
 | bk=>exact RC.on h hk (by simp [Cell.sub,Cell.keys])
 | clo f a b=>
  simp only [Cell.pat,Bool.and_eq_true,List.isEmpty_iff] at hc
  obtain ⟨rfl,rfl⟩:=hc
  exact RC.on h hk (by simp [Cell.sub,Cell.keys])
 | v x=>exact RC.on h hk (by simp [Cell.sub,Cell.keys])
 | sl=>exact RC.on h hk (by simp [Cell.sub,Cell.keys])
 | cap=>exact RC.on h hk (by simp [Cell.sub,Cell.keys])
 | elp=>exact RC.on h hk (by simp [Cell.sub,Cell.keys])
 | junk=>exact h
 | nsl=>exact RC.on h hk (by simp [Cell.sub,Cell.keys])
 | elx=>exact RC.on h hk (by simp [Cell.sub,Cell.keys])
theorem All2.subs {g g2:Gh} {w:World} {k0 k t:Nat} (hs:g2.st=g.st) (hl:g2.lo=g.lo) (ht:g2.tg k=t) (hr:g2.rv k=g.rv k0):∀ {cs:List Cell} {ys:List Value},cs.all Cell.pat=true → All2 (RC g w) (cs.map (Cell.sub k0 (g.tg k0))) ys → All2 (RC g2 w) (cs.map (Cell.sub k t)) ys
 | [],[],_,_=>trivial
 | c :: cs,y :: ys,hp,h=>by
  simp only [List.all_cons,Bool.and_eq_true] at hp
  exact ⟨RC.sub hp.1 hs hl ht hr h.1,All2.subs hs hl ht hr hp.2 h.2⟩
 | [],_ :: _,_,h=>h.elim
 | _ :: _,[],_,h=>h.elim
theorem RV1.sub {g g2:Gh} {w:World} {k0 k t:Nat} {x:AV} {y:Value} (hx:x.pat1=true) (hs:g2.st=g.st) (hl:g2.lo=g.lo) (ht:g2.tg k=t) (hr:g2.rv k=g.rv k0) (h:RV1 g w (x.sub1 k0 (g.tg k0)) y):RV1 g2 w (x.sub1 k t) y:=by
 cases x with
 | c x=>
  intro hj
  refine RC.sub hx hs hl ht hr (h ?_)
  cases x <;> simp_all [Cell.sub]
 | agg cs=>
  obtain ⟨vs,e,hh⟩:=h
  exact ⟨vs,e,All2.subs hs hl ht hr hx hh⟩
 | tup l=>exact h.elim
 | gd b x=>exact h.elim
theorem RV2.sub {g g2:Gh} {w:World} {k0 k t:Nat} {x:AV} {y:Value} (hx:x.pat=true) (hs:g2.st=g.st) (hl:g2.lo=g.lo) (ht:g2.tg k=t) (hr:g2.rv k=g.rv k0) (h:RV2 g w (x.sub k0 (g.tg k0)) y):RV2 g2 w (x.sub k t) y:=by
 cases x with
 | c x=>exact RV1.sub (x:=.c x) hx hs hl ht hr h
 | agg cs=>exact RV1.sub (x:=.agg cs) hx hs hl ht hr h
 | gd b x=>exact h.elim
 | tup l=>
  obtain ⟨vs,e,hh⟩:=h
  refine ⟨vs,e,?_⟩
  simp only [AV.pat] at hx
  have key:∀ {l:List AV} {ys:List Value},l.all AV.pat1=true → All2 (RV1 g w) (l.map (AV.sub1 k0 (g.tg k0))) ys → All2 (RV1 g2 w) (l.map (AV.sub1 k t)) ys:=by
   intro l
   induction l with
   | nil=>intro ys _ h;cases ys;trivial;exact h.elim
   | cons x l ih=>
    intro ys hp h
    simp only [List.all_cons,Bool.and_eq_true] at hp
    cases ys with
    | nil=>exact h.elim
    | cons y ys=>exact ⟨RV1.sub hp.1 hs hl ht hr h.1,ih hp.2 h.2⟩
  exact key hx hh
theorem ObOK.at {g g2:Gh} {w:World} {k0 k:Nat} {q:Obj} (hq:q.keys=[]) (hs:g2.st=g.st) (hl:g2.lo=g.lo) (hb:g2.blk k=g.blk k0) (hr:g2.rv k=g.rv k0) (h:ObOK g w k0 q):ObOK g2 w k q:=by
 have hk:Kp g w g2 w:=⟨fun ad h=>⟨by rw [hs];exact h,rfl⟩,hl,fun _ _ _ _ _ h=>h⟩
 cases q with
 | box ty cs=>
  obtain ⟨vs,e,hh,hz⟩:=h
  refine ⟨vs,by rw [hb];exact e,hh.imp fun c hc y r=>RC.on r hk fun k' hk'=>?_,by rw [hb,hs];exact hz⟩
  have:k' ∈ keysCs cs:=List.mem_flatMap.2 ⟨c,hc,hk'⟩
  simp only [Obj.keys] at hq
  rw [hq] at this;cases this
 | row ty sz bs es=>
  refine ⟨by rw [hr];exact h.1.mono hk,fun a n c h1 h2=>?_⟩
  rw [hr] at h1
  obtain ⟨e1,e2,e3⟩:=h.2 a n c h1 h2
  exact ⟨by rw [hb];exact e1,by rw [hb];exact e2,by rw [hb,hs];exact e3⟩
 | cut ty sz bs es=>
  obtain ⟨f,h⟩:=h
  refine ⟨f,by rw [hr];exact h.1.mono hk,fun a n c h1 h2=>?_⟩
  rw [hr] at h1
  obtain ⟨e1,e2,e3⟩:=h.2 a n c h1 h2
  exact ⟨by rw [hb];exact e1,by rw [hb];exact e2,by rw [hb,hs];exact e3⟩
 | mrow ty sz bs es=>
  obtain ⟨arr,c,h1,h2,h3,h4,h5,h6,h7,h8⟩:=h
  refine ⟨arr,c,by rw [hb,hr];exact h1,h2,by rw [hb];exact h3,h4,h5,h6,fun i j l d e1 e2=>?_,by rw [hb,hs];exact h8⟩
  obtain ⟨x,e,hx⟩:=h7 i j l d e1 e2
  exact ⟨x,e,hx.mono hk⟩
 | mob one es=>
  obtain ⟨arr,c,h1,h2,h3,h4,h5,h6⟩:=h
  exact ⟨arr,c,by rw [hb];exact h1,h2,h3,h4.imp fun p hp x hx=>⟨hx.1,MV.mono hk hx.2⟩,h5,by rw [hb,hs];exact h6⟩
structure EndN (rs:List RR) (k0:Nat) (pat:AV) (q:Obj) (σ:St):Prop where
 gk:∀ r,r ∈ rs → rrGok σ r
 res:resN σ rs=some (pat.sub k0 (σ.tg k0))
 ob:σ.ob k0=some q
def onEndN (rs:List RR) (k0:Nat) (pat:AV) (q:Obj):SEx → St → Prop
 | .exit _,_=>False
 | _,σ=>∃ σ',Ado σ σ' ∧ EndN rs k0 pat q σ'
@[simp] theorem onEndN_n {rs:List RR} {k0:Nat} {pat:AV} {q:Obj}:onEndN rs k0 pat q .normal σ=∃ σ',Ado σ σ' ∧ EndN rs k0 pat q σ':=rfl
@[simp] theorem onEndN_r {rs:List RR} {k0:Nat} {pat:AV} {q:Obj}:onEndN rs k0 pat q .ret σ=∃ σ',Ado σ σ' ∧ EndN rs k0 pat q σ':=rfl
theorem keys_pat1 {k t:Nat}:∀ {x:AV},x.pat1=true → ∀ k',k' ∈ (x.sub1 k t).keys1 → k'=k:=by
 have hc:∀ {c:Cell},c.pat=true → ∀ k',k' ∈ (c.sub k t).keys → k'=k:=by
  intro c hc k' hk
  cases c <;> simp_all [Cell.sub,Cell.keys,Cell.pat]
 intro x hx k' hk
 cases x with
 | c x=>exact hc hx k' hk
 | agg cs=>
  simp only [AV.sub1,AV.keys1,keysCs,List.mem_flatMap,List.mem_map] at hk
  obtain ⟨c,⟨c0,h0,rfl⟩,h1⟩:=hk
  exact hc (List.all_eq_true.1 hx c0 h0) k' h1
 | tup l=>simp [AV.sub1,AV.keys1] at hk
 | gd b x=>simp [AV.sub1,AV.keys1] at hk
theorem keys_pat {k t:Nat} {x:AV} (hx:x.pat=true):∀ k',k' ∈ (x.sub k t).keys2 → k'=k:=by
 intro k' hk
 cases x with
 | c x=>exact keys_pat1 (x:=.c x) hx k' hk
 | agg cs=>exact keys_pat1 (x:=.agg cs) hx k' hk
 | tup l=>
  simp only [AV.sub,AV.keys2,List.mem_flatMap,List.mem_map] at hk
  obtain ⟨c,⟨c0,h0,rfl⟩,h1⟩:=hk
  exact keys_pat1 (List.all_eq_true.1 hx c0 h0) k' h1
 | gd b x=>simp [AV.sub,AV.sub1,AV.keys2,AV.keys1] at hk
theorem new_sem {key fn:Nat} {fv:AV} {xs:List AV} {pat:AV} {q:Obj} (h0:un fv=.c (.clo fn [] [])) (h1:gok true fv) (h2:∀ x,x ∈ xs → gok true x) (hp:pat.pat=true) (hq:q.keys=[])
  (h3:SpecNew P fn (xs.map fun x=>toD2 σ (un x)) pat q):CallSem P σ true fv xs fn [] [] [] [(key,σ.tg key + 1,q)] (pat.sub key (σ.tg key + 1)) [key] where
 c0:=h0
 gf:=h1
 gx:=h2
 cs _:=by simpa [refs] using h3 key (σ.tg key + 1)
 ci k t q h:=by simp at h
 co k t q' h:=by
  simp only [List.lookup_cons,List.lookup_nil] at h
  split at h
  ·rename_i hk
   have hk:k=key:=by simpa using hk
   subst hk;cases h;exact .inl ⟨by simp,rfl⟩
  ·cases h
 cp k h:=by
  simp at h;subst h;simp
 kres k h:=by
  rw [keys_pat hp k h];simp
 kobs k t q' h:=by
  simp only [List.lookup_cons,List.lookup_nil] at h
  split at h
  ·cases h;rw [hq];intro k' hk';cases hk'
  ·cases h
theorem ECall.new {d fn:Nat} {xs args:List AV} {pat:AV} {q:Obj} {K:St → Prop} (key:Nat) (hs:SpecNew P fn args pat q) (hp:pat.pat=true) (hq:q.keys=[]) (ha:xs.map (fun x=>toD2 σ (un x))=args)
  (h2:∀ x,x ∈ xs → gok true x) (hK:RealA (pat.sub key (σ.tg key + 1)) → K ((σ.new key q).set d (pat.sub key (σ.tg key + 1)))):ECall P σ (.c (.clo fn [] [])) xs (some d) K:=by
 subst ha
 refine ⟨fn,[],[],[],_,_,[key],_,new_sem rfl trivial h2 hp hq hs,.inl rfl,fun h=>?_⟩
 have:=ap_new (σ:=σ) d key (pat.sub key (σ.tg key + 1)) q []
 simp only [objsOf,List.map_cons,List.map_nil]
 rw [this]
 exact hK (h d rfl)
theorem CallD.new {wk fb:List Nat} {own d fn:Nat} {xs args:List AV} {pat:AV} {q:Obj} {K:St → Prop} (key:Nat) (hs:SpecNew P fn args pat q) (hp:pat.pat=true) (hq:q.keys=[]) (ha:xs.map (fun x=>toD2 σ (un x))=args)
  (h2:∀ x,x ∈ xs → gok true x) (hw:key ∈ wk) (h5:okLk fb (own :: (xs.flatMap (fun x=>(un x).keys2) ++ [key]))) (hK:K ((σ.new key q).set d (pat.sub key (σ.tg key + 1)))):CallD P wk fb own σ (.c (.clo fn [] [])) xs (some d) K:=by
 subst ha
 refine ⟨fn,[],[],[],_,_,[key],_,new_sem rfl trivial h2 hp hq hs,.inl rfl,?_,?_,?_⟩
 ·intro k hk
  simp [objsOf] at hk
  rw [hk];exact hw
 ·intro k hk
  have:=h5 k hk
  simpa [objsOf,AV.keys2,AV.keys1,Cell.keys] using this
 ·have:=ap_new (σ:=σ) d key (pat.sub key (σ.tg key + 1)) q []
  simp only [objsOf,List.map_cons,List.map_nil]
  rw [this]
  exact hK
attribute [simp] AV.sub AV.sub1 Cell.sub
end Go.Abs

namespace Go.Abs
variable {P:Program} {base:Nat} {σ σ':St}
def only (A:St → Prop):SEx → St → Prop
 | .normal,σ=>A σ
 | _,_=>False
@[simp] theorem only_n (A:St → Prop):only A .normal σ=A σ:=rfl
@[simp] theorem only_e (A:St → Prop) (id:Nat):only A (.exit id) σ=False:=rfl
@[simp] theorem only_r (A:St → Prop):only A .ret σ=False:=rfl
@[simp] theorem toD_mp (k t:Nat):toD σ (.mp k t)=.mp k t:=rfl
@[simp] theorem toD_bk (f sz bs:Nat) (es:List (List Cell)):toD σ (.bk f sz bs es)=.bk f sz bs es:=rfl
@[simp] theorem k2_bk (f sz bs:Nat) (es:List (List Cell)):AV.keys2 (.c (.bk f sz bs es))=[]:=rfl
@[simp] theorem toD_itr (f k t:Nat):toD σ (.itr f k t)=.itr f k t:=rfl
@[simp] theorem k2_mp (k t:Nat):AV.keys2 (.c (.mp k t))=[k]:=rfl
@[simp] theorem k2_itr (f k t:Nat):AV.keys2 (.c (.itr f k t))=[k]:=rfl
@[simp] theorem ld1P_none:ld1P none=none:=rfl
@[simp] theorem binK_none:binK none=none:=rfl
@[simp] theorem binV_bi (op:BinOp) (b:Bool) (k:IntKind) (n:Int):binV op (.bool b) (.int k n)=none:=rfl
@[simp] theorem binV_ib (op:BinOp) (b:Bool) (k:IntKind) (n:Int):binV op (.int k n) (.bool b)=none:=rfl
@[simp] theorem binV_bb (op:BinOp) (a b:Bool):binV op (.bool a) (.bool b)=none:=rfl
@[simp] theorem lenE_b (b:Bool):lenE σ (.c (.v (.bool b)))=none:=rfl
@[simp] theorem fadE_b (off:Nat) (b:Bool):fadE σ off (.c (.v (.bool b)))=none:=rfl
@[simp] theorem iadE_b (sz:Nat) (b:Bool) (i:AV):iadE σ sz (.c (.v (.bool b))) i=none:=rfl
@[simp] theorem convE_b (k:IntKind) (b:Bool):convE k (.c (.v (.bool b)))=none:=rfl
@[simp] theorem loadAt_b (one:Bool) (m:Nat) (b:Bool):loadAt σ one m (.c (.v (.bool b)))=none:=rfl
@[simp] theorem fld1E_b (off:Nat) (b:Bool):fld1E off (.c (.v (.bool b)))=none:=rfl
end Go.Abs

namespace Go.Abs
variable {P:Program} {base:Nat} {σ:St} {key:Nat} {ρ:SArg → AV} {β:Bool}
structure Ro (σ:St) (l:Objs):Prop where
 holds:Holds σ l
 keys:∀ k t q,l.lookup k=some (t,q) → keysOk q.keys l
end Go.Abs

namespace Go.Abs
variable {P:Program} {I:Init} {n:Nat} {σ σ':St} {g g':Gh} {a:Act} {w w':World} {o:Oper} {e:Eff}
structure EndU (rs:List RR) (res:AV) (outs:Objs) (σ:St):Prop where
 gk:∀ r,r ∈ rs → rrGok σ r
 res:resOf σ rs=some res
 outs:∀ k t q,outs.lookup k=some (t,q) → σ.ob k=some q ∧ σ.tg k=t
def onEndU (rs:List RR) (res:AV) (outs:Objs):SEx → St → Prop
 | .normal,σ=>EndU rs res outs σ
 | .ret,σ=>EndU rs res outs σ
 | .exit _,_=>False
end Go.Abs

namespace Go.Abs
variable {P:Program} {base:Nat} {σ:St}
def St.hp (σ:St) (B tb K r:Nat) (q:Obj):St where
 sl:=σ.sl
 ob:=fun k=>if k=B then some (.box tb [.own K (σ.tg K + r)]) else if k=K then some q else σ.ob k
 tg:=fun k=>if k=K then σ.tg K + r else σ.tg k
@[simp] theorem hp_sl (B tb K r:Nat) (q:Obj):(σ.hp B tb K r q).sl=σ.sl:=rfl
@[simp] theorem hp_ob (B tb K r:Nat) (q:Obj) (k:Nat):(σ.hp B tb K r q).ob k=if k=B then some (.box tb [.own K (σ.tg K + r)]) else if k=K then some q else σ.ob k:=rfl
@[simp] theorem hp_tg (B tb K r:Nat) (q:Obj) (k:Nat):(σ.hp B tb K r q).tg k=if k=K then σ.tg K + r else σ.tg k:=rfl
@[simp] theorem stl_sl (B tb:Nat) (cs:List Cell) (i k K:Nat) (q:Obj):(σ.stl B tb cs i k K q).sl=σ.sl:=rfl
@[simp] theorem stl_ob (B tb:Nat) (cs:List Cell) (i k K:Nat) (q:Obj) (x:Nat):(σ.stl B tb cs i k K q).ob x=if x=B then some (.box tb (cs.set i (.own K (σ.tg K + 1)))) else if x=K then some q else if x=k then none else σ.ob x:=rfl
@[simp] theorem stl_tg (B tb:Nat) (cs:List Cell) (i k K:Nat) (q:Obj) (x:Nat):(σ.stl B tb cs i k K q).tg x=if x=K then σ.tg K + 1 else σ.tg x:=rfl
@[simp] theorem adb_sl (B tb:Nat) (cs:List Cell) (i K ty sz bs:Nat) (es:List (List Cell)):(σ.adb B tb cs i K ty sz bs es).sl=σ.sl:=rfl
@[simp] theorem adb_ob (B tb:Nat) (cs:List Cell) (i K ty sz bs:Nat) (es:List (List Cell)) (x:Nat):(σ.adb B tb cs i K ty sz bs es).ob x=if x=B then some (.box tb (cs.set i (.own K (σ.tg K + 1)))) else if x=K then some (.row ty sz bs es) else σ.ob x:=rfl
@[simp] theorem adb_tg (B tb:Nat) (cs:List Cell) (i K ty sz bs:Nat) (es:List (List Cell)) (x:Nat):(σ.adb B tb cs i K ty sz bs es).tg x=if x=K then σ.tg K + 1 else σ.tg x:=rfl
@[simp] theorem ads_sl (s K ty sz bs:Nat) (es:List (List Cell)) (x:Nat):(σ.ads s K ty sz bs es).sl x=if x=s then .c (.own K (σ.tg K + 1)) else σ.sl x:=rfl
@[simp] theorem ads_ob (s K ty sz bs:Nat) (es:List (List Cell)) (x:Nat):(σ.ads s K ty sz bs es).ob x=if x=K then some (.row ty sz bs es) else σ.ob x:=rfl
@[simp] theorem ads_tg (s K ty sz bs:Nat) (es:List (List Cell)) (x:Nat):(σ.ads s K ty sz bs es).tg x=if x=K then σ.tg K + 1 else σ.tg x:=rfl
@[simp] theorem cellsOf_nsl (sz bs:Nat) (es:List (List Cell)):cellsOf (.c (.nsl sz bs es))=some [.nsl sz bs es]:=rfl
@[simp] theorem toD_nsl (sz bs:Nat) (es:List (List Cell)):toD σ (.nsl sz bs es)=.nsl sz bs es:=rfl
@[simp] theorem isD_nsl (sz bs:Nat) (es:List (List Cell)):Cell.isD (.nsl sz bs es)=true:=rfl
@[simp] theorem k2_nsl (sz bs:Nat) (es:List (List Cell)):AV.keys2 (.c (.nsl sz bs es))=[]:=rfl
@[simp] theorem k1_nsl (sz bs:Nat) (es:List (List Cell)):AV.keys1 (.c (.nsl sz bs es))=[]:=rfl
@[simp] theorem k2_elx (ad:Addr) (cs:List Cell):AV.keys2 (.c (.elx ad cs))=[]:=rfl
@[simp] theorem k1_elx (ad:Addr) (cs:List Cell):AV.keys1 (.c (.elx ad cs))=[]:=rfl
@[simp] theorem loadAt_elxn (m:Nat) (ad:Addr) (cs:List Cell):loadAt σ false m (.c (.elx ad cs))=if m ≤ cs.length then some (.pure (.agg (cs.take m))) else none:=by
 simp [loadAt]
@[simp] theorem nz_sl (s k ty sz bs:Nat) (es:List (List Cell)) (x:Nat):(σ.nz s k ty sz bs es).sl x=if x=s then .c (.nsl sz bs es) else σ.sl x:=rfl
@[simp] theorem nz_ob (s k ty sz bs:Nat) (es:List (List Cell)) (x:Nat):(σ.nz s k ty sz bs es).ob x=if x=k then some (.row ty sz bs es) else σ.ob x:=rfl
@[simp] theorem nz_tg (s k ty sz bs:Nat) (es:List (List Cell)) (x:Nat):(σ.nz s k ty sz bs es).tg x=σ.tg x:=rfl
theorem W_nz {s k t ty sz bs:Nat} {es:List (List Cell)} {Q:SEx → St → Prop} (hs:σ.sl s=.c (.own k t)) (ht:t=σ.tg k) (hk:σ.ob k=some (.mrow ty sz bs es)) (h0:0 < es.length * sz) (h:Q .normal (σ.nz s k ty sz bs es)):W P base .gh σ Q:=W_gh (.nz s k t ty sz bs es hs ht hk h0 (.refl _)) h
theorem two_get {B K tB t:Nat} {b q:Obj} {k t':Nat} {q0:Obj} (h:List.lookup k ([(B,tB,b),(K,t,q)]:Objs)=some (t',q0)):(k=B ∧ t'=tB ∧ q0=b) ∨ (k ≠ B ∧ k=K ∧ t'=t ∧ q0=q):=by
 simp only [List.lookup_cons,List.lookup_nil] at h
 by_cases e:k=B
 ·subst e;simp at h;exact .inl ⟨rfl,h.1.symm,h.2.symm⟩
 ·have e1:(k == B)=false:=by simpa using e
  rw [e1] at h
  by_cases e2:k=K
  ·subst e2;simp at h;exact .inr ⟨e,rfl,h.1.symm,h.2.symm⟩
  ·have e3:(k == K)=false:=by simpa using e2
   rw [e3] at h;simp at h
theorem two_B {B K tB t:Nat} {b q:Obj}:List.lookup B ([(B,tB,b),(K,t,q)]:Objs)=some (tB,b):=by simp
theorem two_K {B K tB t:Nat} {b q:Obj} (h:B ≠ K):List.lookup K ([(B,tB,b),(K,t,q)]:Objs)=some (t,q):=by
 have:(K == B)=false:=by simpa using Ne.symm h
 simp [List.lookup_cons,this]
theorem ECall.hp {d fn B K tB tb t r:Nat} {q q':Obj} {xs args:List AV} {res:AV} {Kc:St → Prop} (hs:Spec P fn args [(B,tB,.box tb [.own K t]),(K,t,q)] res [(B,tB,.box tb [.own K (t + r)]),(K,t + r,q')])
  (ha:xs.map (fun x=>toD2 σ (un x))=args) (h2:∀ x,x ∈ xs → gok true x) (h4:res.keys2=[]) (hr:r=0 ∨ r=1) (hne:B ≠ K) (hq:q'.keys=[])
  (oB:σ.ob B=some (.box tb [.own K t])) (gB:σ.tg B=tB) (oK:σ.ob K=some q) (gK:σ.tg K=t) (hK:RealA res → Kc ((σ.hp B tb K r q').set d res)):ECall P σ (.c (.clo fn [] [])) xs (some d) Kc:=by
 subst ha
 have kobs:∀ (k t':Nat) (q0:Obj),List.lookup k ([(B,tB,.box tb [.own K (t + r)]),(K,t + r,q')]:Objs)=some (t',q0) → keysOk q0.keys [(B,tB,.box tb [.own K (t + r)]),(K,t + r,q')]:=fun k t' q0 h=>by
  rcases two_get h with ⟨rfl,rfl,rfl⟩ | ⟨h0,rfl,rfl,rfl⟩
  ·intro k' hk'
   simp [Obj.keys,keysCs,Cell.keys] at hk'
   subst hk'
   rw [two_K hne];rfl
  ·intro k' hk';rw [hq] at hk';cases hk'
 have hci:∀ (k t':Nat) (q0:Obj),List.lookup k ([(B,tB,.box tb [.own K t]),(K,t,q)]:Objs)=some (t',q0) → σ.ob k=some q0 ∧ σ.tg k=t' ∧ (List.lookup k ([(B,tB,.box tb [.own K (t + r)]),(K,t + r,q')]:Objs)).isSome=true:=fun k t' q0 h=>by
  rcases two_get h with ⟨rfl,rfl,rfl⟩ | ⟨h0,rfl,rfl,rfl⟩
  ·exact ⟨oB,gB,by rw [two_B];rfl⟩
  ·exact ⟨oK,gK,by rw [two_K hne];rfl⟩
 have hst:∀ pur:List Nat,(∀ k,k ∈ pur ↔ k=K ∧ r=1) → σ.ap (some d) ⟨res,pur,objsOf [(B,tB,.box tb [.own K (t + r)]),(K,t + r,q')],[B,K]⟩=(σ.hp B tb K r q').set d res:=fun pur hp=>by
  refine st_ext (fun s=>rfl) (fun k=>?_) fun k=>?_
  ·simp only [St.ap,obAfter,lookup_objsOf,set_ob,hp_ob]
   by_cases e:k=B
   ·subst e;rw [two_B];simp [gK]
   ·by_cases e2:k=K
    ·subst e2;rw [two_K hne];simp [e]
    ·have e1:(k == B)=false:=by simpa using e
     have e3:(k == K)=false:=by simpa using e2
     have e4:k ∉ pur:=fun h=>e2 ((hp k).1 h).1
     simp [List.lookup_cons,e1,e3,e,e2,e4]
  ·simp only [St.ap,set_tg,hp_tg]
   by_cases e2:k=K
   ·subst e2
    rcases hr with rfl | rfl
    ·have:k ∉ pur:=fun h=>by have:=((hp k).1 h).2;omega
     simp [this]
    ·have:k ∈ pur:=(hp k).2 ⟨rfl,rfl⟩
     simp [this]
   ·have e4:k ∉ pur:=fun h=>e2 ((hp k).1 h).1
    simp [e2,e4]
 have hsem:∀ pur:List Nat,(∀ k,k ∈ pur ↔ k=K ∧ r=1) → CallSem P σ true (.c (.clo fn [] [])) xs fn [] [] [(B,tB,.box tb [.own K t]),(K,t,q)] [(B,tB,.box tb [.own K (t + r)]),(K,t + r,q')] res pur:=fun pur hp=>
  {c0:=rfl,gf:=trivial,gx:=h2,cs:=fun _=>by simpa [refs] using hs,ci:=hci
   co:=fun k t' q0 h=>by
    rcases two_get h with ⟨rfl,rfl,rfl⟩ | ⟨h0,rfl,rfl,rfl⟩
    ·exact .inr ⟨fun h=>hne ((hp _).1 h).1,gB.symm,_,two_B⟩
    ·rcases hr with rfl | rfl
     ·exact .inr ⟨fun h=>by have:=((hp _).1 h).2;omega,by rw [gK];rfl,_,two_K hne⟩
     ·exact .inl ⟨(hp _).2 ⟨rfl,rfl⟩,by rw [gK]⟩
   cp:=fun k h=>by obtain ⟨rfl,_⟩:=(hp k).1 h;rw [two_K hne];rfl
   kres:=fun k h=>by rw [h4] at h;cases h
   kobs:=kobs }
 rcases hr with rfl | rfl
 ·refine ⟨fn,[],[],_,_,res,[],_,hsem [] (by simp),.inl rfl,fun h=>?_⟩
  have:=hst [] (by simp)
  rw [show (List.map (fun x=>x.1) [(B,tB,Obj.box tb [Cell.own K t]),(K,t,q)])=[B,K] from rfl,this]
  exact hK (h d rfl)
 ·refine ⟨fn,[],[],_,_,res,[K],_,hsem [K] (by simp),.inl rfl,fun h=>?_⟩
  have:=hst [K] (by simp)
  rw [show (List.map (fun x=>x.1) [(B,tB,Obj.box tb [Cell.own K t]),(K,t,q)])=[B,K] from rfl,this]
  exact hK (h d rfl)
theorem Ro.one {K t:Nat} {q:Obj} (oK:σ.ob K=some q) (gK:σ.tg K=t) (hq:q.keys=[]):Ro σ [(K,t,q)]:=by
 have get:∀ k t' q0,List.lookup k ([(K,t,q)]:Objs)=some (t',q0) → k=K ∧ t'=t ∧ q0=q:=fun k t' q0 h=>by
  simp only [List.lookup_cons,List.lookup_nil] at h
  by_cases e:k=K
  ·subst e;simp at h;exact ⟨rfl,h.1.symm,h.2.symm⟩
  ·have e1:(k == K)=false:=by simpa using e
   rw [e1] at h;cases h
 refine ⟨fun k t' q0 h=>?_,fun k t' q0 h=>?_⟩
 ·obtain ⟨rfl,rfl,rfl⟩:=get k t' q0 h;exact ⟨oK,gK⟩
 ·obtain ⟨rfl,rfl,rfl⟩:=get k t' q0 h;intro k' hk';rw [hq] at hk';cases hk'
theorem one_get {K t:Nat} {q:Obj} {k t':Nat} {q0:Obj} (h:List.lookup k ([(K,t,q)]:Objs)=some (t',q0)):k=K ∧ t'=t ∧ q0=q:=by
 simp only [List.lookup_cons,List.lookup_nil] at h
 by_cases e:k=K
 ·subst e;simp at h;exact ⟨rfl,h.1.symm,h.2.symm⟩
 ·have e1:(k == K)=false:=by simpa using e
  rw [e1] at h;cases h
theorem ECall.one {d fn K t:Nat} {q q':Obj} {xs args:List AV} {res:AV} {Kc:St → Prop} (hs:Spec P fn args [(K,t,q)] res [(K,t,q')])
  (ha:xs.map (fun x=>toD2 σ (un x))=args) (h2:∀ x,x ∈ xs → gok true x) (h4:res.keys2=[]) (hq:q'.keys=[])
  (oK:σ.ob K=some q) (gK:σ.tg K=t) (hK:RealA res → Kc ((σ.puto K q').set d res)):ECall P σ (.c (.clo fn [] [])) xs (some d) Kc:=by
 refine ECall.obj (rs:=[]) (args:=args) (ins:=[(K,t,q)]) (outs:=[(K,t,q')]) (by simpa [refs] using hs) ha h2 h4 (fun k t' q0 h=>?_) ⟨fun k t' q0 h=>?_,fun k t' q0 h=>?_,fun k t' q0 h=>?_⟩ fun hr=>?_
 ·obtain ⟨rfl,rfl,rfl⟩:=one_get h;exact ⟨oK,gK⟩
 ·obtain ⟨rfl,rfl,rfl⟩:=one_get h;exact ⟨q',by simp⟩
 ·obtain ⟨rfl,rfl,rfl⟩:=one_get h;exact ⟨q,by simp⟩
 ·obtain ⟨rfl,rfl,rfl⟩:=one_get h;exact hq
 ·have e:σ.puts [(K,t,q')]=σ.puto K q':=by
   refine st_ext (fun s=>rfl) (fun k=>?_) fun k=>rfl
   simp only [St.puts,puto_ob,List.lookup_cons,List.lookup_nil]
   by_cases e:k=K
   ·subst e;simp
   ·have e1:(k == K)=false:=by simpa using e
    simp [e1,e]
  rw [e];exact hK hr
@[simp] theorem onEndU_n (rs:List RR) (res:AV) (outs:Objs):onEndU rs res outs .normal σ=EndU rs res outs σ:=rfl
@[simp] theorem onEndU_r (rs:List RR) (res:AV) (outs:Objs):onEndU rs res outs .ret σ=EndU rs res outs σ:=rfl
end Go.Abs

namespace Go.Abs
variable {P:Program} {base n:Nat} {σ σ':St}
def NoKeys (l:Objs):Prop:=∀ k t q,l.lookup k=some (t,q) → q.keys=[]
theorem Ro.of {l:Objs} (hl:NoKeys l) (h:Holds σ l):Ro σ l:=⟨h,fun k t q e k' hk'=>by rw [hl k t q e] at hk';cases hk'⟩
theorem Ro.mono {l:Objs} (h:Ro σ l) (hk:∀ k,σ'.ob k=σ.ob k ∧ σ'.tg k=σ.tg k):Ro σ' l:=⟨fun k t q e=>by rw [(hk k).1,(hk k).2];exact h.holds k t q e,h.keys⟩
theorem NoKeys.nil:NoKeys []:=fun k t q h=>by cases h
theorem NoKeys.one {K t:Nat} {q:Obj} (h:q.keys=[]):NoKeys [(K,t,q)]:=fun k t' q0 e=>by obtain ⟨rfl,rfl,rfl⟩:=one_get e;exact h
theorem NoKeys.two {K t K' t':Nat} {q q':Obj} (h:q.keys=[]) (h':q'.keys=[]):NoKeys [(K,t,q),(K',t',q')]:=fun k t0 q0 e=>by
 rcases two_get e with ⟨rfl,rfl,rfl⟩ | ⟨_,rfl,rfl,rfl⟩
 ·exact h
 ·exact h'
theorem Ro.two {K t K' t':Nat} {q q':Obj} (hne:K ≠ K') (oK:σ.ob K=some q) (gK:σ.tg K=t) (oK':σ.ob K'=some q') (gK':σ.tg K'=t') (h:q.keys=[]) (h':q'.keys=[]):Ro σ [(K,t,q),(K',t',q')]:=
 Ro.of (NoKeys.two h h') fun k t0 q0 e=>by
  rcases two_get e with ⟨rfl,rfl,rfl⟩ | ⟨_,rfl,rfl,rfl⟩
  ·exact ⟨oK,gK⟩
  ·exact ⟨oK',gK'⟩
end Go.Abs

namespace Go.Abs
abbrev m_ (d s:Nat):SO:=⟨some d,none,.mv (.t s)⟩
abbrev o_ (d:Nat) (op:SOp):SO:=⟨some d,none,op⟩
abbrev p_ (d g:Nat) (op:SOp):SO:=⟨some d,some (g,true),op⟩
abbrev q_ (d g:Nat) (op:SOp):SO:=⟨some d,some (g,false),op⟩
abbrev pm_ (d g s:Nat):SO:=⟨some d,some (g,true),.mv (.t s)⟩
abbrev qm_ (d g s:Nat):SO:=⟨some d,some (g,false),.mv (.t s)⟩
abbrev n_ (op:SOp):SO:=⟨none,none,op⟩
end Go.Abs
