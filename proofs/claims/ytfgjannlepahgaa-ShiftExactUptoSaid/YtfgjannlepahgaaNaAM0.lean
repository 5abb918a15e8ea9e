/- THIS TEXT PROVES A PART OF A CALCULUS THAT TELLS WHAT A LOADED GO FUNCTION DOES WITHOUT NAMING MEMORY: each rule is proved against the machine, for every program and every world; its conditions stand in each theorem. -/
import Derived.Control
import Derived.Calls
import Derived.Orders
import Derived.Below
import Derived.Deep.LoopGhost
import Derived.ChangeKeysEq
import Derived.Laws.Cells
import Derived.Laws.CopyRow
import Derived.Great.FillDense
import Derived.Laws.Rows
import Derived.Laws.AppendOwn
import Derived.Laws.MakeOwn
set_option linter.unusedVariables false
set_option linter.unusedSimpArgs false
namespace Go.Abs
inductive Cell where
 | v (x:Value)
 | sl (sz bs:Nat) (es:List (List Cell))
 | ref (k t off:Nat)
 | own (k t:Nat)
 | cap (sz bs:Nat) (es:List (List Cell))
 | elp (cs:List Cell) (j:Nat)
 | elw (k t sz i j:Nat)
 | clo (f:Nat) (ks1 ks2:List (Nat × Nat))
 | mp (k t:Nat)
 | itr (f k t:Nat)
 | bk (f sz bs:Nat) (es:List (List Cell))
 | ifc (ty k t:Nat)
 | sob (k t n:Nat)
 | junk
 | nsl (sz bs:Nat) (es:List (List Cell))
 | elx (ad:Addr) (cs:List Cell)
 deriving Inhabited
inductive AV where
 | c (x:Cell)
 | agg (cs:List Cell)
 | tup (vs:List AV)
 | gd (b:Bool) (x:AV)
 deriving Inhabited
inductive Obj where
 | box (ty:Nat) (cs:List Cell)
 | row (ty sz bs:Nat) (es:List (List Cell))
 | mrow (ty sz bs:Nat) (es:List (List Cell))
 | cut (ty sz bs:Nat) (es:List (List Cell))
 | mob (one:Bool) (es:List (Int × List Cell))
 deriving Inhabited
structure Gh where
 st:Nat → Nat → Prop
 blk:Nat → Nat
 rv:Nat → Value
 tg:Nat → Nat
 lo:Nat
def All2 {α β:Type} (R:α → β → Prop):List α → List β → Prop
 | [],[]=>True
 | a :: as,b :: bs=>R a b ∧ All2 R as bs
 | _,_=>False
def Lies (g:Gh) (w:World) (a:Addr) (x:Value):Prop:=g.st a.block a.off ∧ w.cell? a=some x
def room:Nat:=140737488355328
def shp (w:World) (b ty n:Nat):Prop:=∃ arr,w.heap[b]? = some (.cells arr ty (0,0)) ∧ arr.size=n
inductive RD (g:Gh) (w:World):Cell → Value → Prop where
 | v (x:Value) (h:x.oneCell'=true):RD g w (.v x) x
 | sl (sz bs:Nat) (es:List (List Cell)) (a:Option Addr) (c:Nat) (vs:Nat → Nat → Value) (hc:es.length ≤ c) (hb:es.length * bs ≤ room)
   (hs:∀ l,l ∈ es → l.length=sz)
   (hl:∀ i j l d,es[i]? = some l → l[j]? = some d → ∃ ad,a=some ad ∧ Lies g w (ad.add (i * sz + j)) (vs i j))
   (hd:∀ i j l d,es[i]? = some l → l[j]? = some d → RD g w d (vs i j)) :
   RD g w (.sl sz bs es) (.slice a es.length c)
 | nsl (sz bs:Nat) (es:List (List Cell)) (b ty:Nat) (vs:Nat → Nat → Value) (hb:es.length * bs ≤ room)
   (hs:∀ l,l ∈ es → l.length=sz)
   (hl:∀ i j l d,es[i]? = some l → l[j]? = some d → Lies g w ⟨b,i * sz + j,none⟩ (vs i j))
   (hn:g.lo ≤ b) (h0:g.st b 0) (hw:shp w b ty (es.length * sz))
   (hd:∀ i j l d,es[i]? = some l → l[j]? = some d → RD g w d (vs i j)) :
   RD g w (.nsl sz bs es) (.slice (some ⟨b,0,none⟩) es.length es.length)
def ptr (g:Gh) (k off:Nat):Value:=.pointer (some ⟨g.blk k,off,none⟩)
def IsRef (g:Gh) (k:Nat × Nat) (y:Value):Prop:=y.oneCell'=true ∧ k.2 ≤ g.tg k.1 ∧ (k.2=g.tg k.1 → y=ptr g k.1 0)
def RC (g:Gh) (w:World):Cell → Value → Prop
 | .v x,y=>RD g w (.v x) y
 | .sl sz bs es,y=>RD g w (.sl sz bs es) y
 | .cap sz bs es,y=>RD g w (.sl sz bs es) y ∧ ∃ a,y=.slice a es.length es.length
 | .ref k t off,y=>y.oneCell'=true ∧ t ≤ g.tg k ∧ (t=g.tg k → y=ptr g k off)
 | .own k t,y=>y.oneCell'=true ∧ t ≤ g.tg k ∧ (t=g.tg k → y=g.rv k ∧ ∃ a n c,y=.slice a n c)
 | .elp cs j,y=>∃ ad,y=.pointer (some ad) ∧ ∀ i d,cs[j + i]? = some d → ∃ x,Lies g w (ad.add i) x ∧ RD g w d x
 | .elw k t sz i j,y=>y.oneCell'=true ∧ t ≤ g.tg k ∧ (t=g.tg k → y=ptr g k (i * sz + j))
 | .clo f k1 k2,y=>∃ v1 v2,y=.func (.func f) v1 v2 ∧ All2 (IsRef g) k1 v1.toList ∧ All2 (IsRef g) k2 v2.toList
 | .mp k t,y=>y.oneCell'=true ∧ t ≤ g.tg k ∧ (t=g.tg k → y=.map (some (g.blk k)))
 | .itr f k t,y=>y.oneCell'=true ∧ t ≤ g.tg k ∧ (t=g.tg k → ∃ b:Nat,y=.func (.func f) #[] #[.pointer (some ⟨b,0,none⟩)] ∧ Lies g w ⟨b,0,none⟩ (.map (some (g.blk k))))
 | .bk f sz bs es,y=>∃ (b:Nat) (x:Value),y=.func (.func f) #[] #[.pointer (some ⟨b,0,none⟩)] ∧ Lies g w ⟨b,0,none⟩ x ∧ RD g w (.sl sz bs es) x
 | .ifc ty k t,y=>y.oneCell'=true ∧ t ≤ g.tg k ∧ (t=g.tg k → y=.iface ty (ptr g k 0))
 | .sob k t n,y=>y.oneCell'=true ∧ t ≤ g.tg k ∧ (t=g.tg k → y=.slice (some ⟨g.blk k,0,none⟩) n n)
 | .junk,y=>y.oneCell'=true
 | .nsl sz bs es,y=>RD g w (.nsl sz bs es) y
 | .elx ad cs,y=>y=.pointer (some ad) ∧ ∀ i d,cs[i]? = some d → ∃ x,Lies g w (ad.add i) x ∧ RD g w d x
def RV1 (g:Gh) (w:World):AV → Value → Prop
 | .c x,y=>x ≠ .junk → RC g w x y
 | .agg cs,y=>∃ vs,y=.agg vs ∧ All2 (RC g w) cs vs.toList
 | .tup _,_=>False
 | .gd _ _,_=>False
def RV2 (g:Gh) (w:World):AV → Value → Prop
 | .tup l,y=>∃ vs,y=.tuple vs ∧ All2 (RV1 g w) l vs.toList
 | .c x,y=>RV1 g w (.c x) y
 | .agg cs,y=>RV1 g w (.agg cs) y
 | .gd _ _,_=>False
def RV (g:Gh) (w:World):AV → Value → Prop
 | .gd b x,y=>if b then RV2 g w x y else y=undef
 | .tup l,y=>RV2 g w (.tup l) y
 | .c x,y=>RV2 g w (.c x) y
 | .agg cs,y=>RV2 g w (.agg cs) y
def Cell.keys:Cell → List Nat
 | .ref k _ _=>[k]
 | .own k _=>[k]
 | .elw k _ _ _ _=>[k]
 | .mp k _=>[k]
 | .itr _ k _=>[k]
 | .ifc _ k _=>[k]
 | .sob k _ _=>[k]
 | .clo _ a b=>a.map (·.1) ++ b.map (·.1)
 | _=>[]
def keysCs (l:List Cell):List Nat:=l.flatMap Cell.keys
def AV.keys1:AV → List Nat
 | .c x=>x.keys
 | .agg cs=>keysCs cs
 | _=>[]
def AV.keys2:AV → List Nat
 | .tup l=>l.flatMap AV.keys1
 | x=>x.keys1
def AV.keys:AV → List Nat
 | .gd _ x=>x.keys2
 | x=>x.keys2
def Obj.keys:Obj → List Nat
 | .box _ cs=>keysCs cs
 | _=>[]
structure Kp (g:Gh) (w:World) (g':Gh) (w':World):Prop where
 keep:∀ a:Addr,g.st a.block a.off → g'.st a.block a.off ∧ w'.cell? a=w.cell? a
 lo:g'.lo=g.lo
 kf:∀ b ty n o,g.st b o → shp w b ty n → shp w' b ty n
theorem Kp.refl (g:Gh) (w:World):Kp g w g w:=⟨fun _ h=>⟨h,rfl⟩,rfl,fun _ _ _ _ _ h=>h⟩
theorem Kp.trans {g g1 g2:Gh} {w w1 w2:World} (h:Kp g w g1 w1) (k:Kp g1 w1 g2 w2):Kp g w g2 w2:=
 ⟨fun a ha=>⟨(k.keep a (h.keep a ha).1).1,(k.keep a (h.keep a ha).1).2.trans (h.keep a ha).2⟩,k.lo.trans h.lo,fun b ty n o ho hf=>k.kf b ty n o (h.keep ⟨b,o,none⟩ ho).1 (h.kf b ty n o ho hf)⟩
theorem Kp.lies {g g':Gh} {w w':World} (h:Kp g w g' w') {a:Addr} {x:Value} (l:Lies g w a x):Lies g' w' a x:=
 ⟨(h.keep a l.1).1,(h.keep a l.1).2.trans l.2⟩
theorem RD.mono {g g':Gh} {w w':World} (h:Kp g w g' w') {c:Cell} {y:Value} (r:RD g w c y):RD g' w' c y:=by
 induction r with
 | v x hx=>exact .v x hx
 | sl sz bs es a c vs hc hb hs hl _ ih=>
  refine .sl sz bs es a c vs hc hb hs (fun i j l d h1 h2=>?_) ih
  obtain ⟨ad,e,hh⟩:=hl i j l d h1 h2
  exact ⟨ad,e,h.lies hh⟩
 | nsl sz bs es b ty vs hb hs hl hn h0 hw _ ih=>
  exact .nsl sz bs es b ty vs hb hs (fun i j l d h1 h2=>h.lies (hl i j l d h1 h2)) (by rw [h.lo];exact hn) (h.keep ⟨b,0,none⟩ h0).1 (h.kf b ty _ 0 h0 hw) ih
theorem All2.imp {α β:Type} {R S:α → β → Prop}:∀ {l:List α} {m:List β},(∀ a,a ∈ l → ∀ b,R a b → S a b) → All2 R l m → All2 S l m
 | [],[],_,_=>trivial
 | a :: as,b :: bs,h,r=>⟨h a (by simp) b r.1,All2.imp (fun x hx=>h x (by simp [hx])) r.2⟩
 | [],_ :: _,_,r=>r.elim
 | _ :: _,[],_,r=>r.elim
theorem All2.length {α β:Type} {R:α → β → Prop}:∀ {l:List α} {m:List β},All2 R l m → l.length=m.length
 | [],[],_=>rfl
 | _ :: _,_ :: _,r=>by simp [All2.length r.2]
 | [],_ :: _,r=>r.elim
 | _ :: _,[],r=>r.elim
theorem All2.get {α β:Type} {R:α → β → Prop}:∀ {l:List α} {m:List β},All2 R l m → ∀ (i:Nat) a,l[i]? = some a → ∃ b,m[i]? = some b ∧ R a b
 | [],[],_,i,a,h=>by simp at h
 | a :: as,b :: bs,r,0,x,h=>by simp at h;subst h;exact ⟨b,by simp,r.1⟩
 | a :: as,b :: bs,r,i + 1,x,h=>by simpa using All2.get r.2 i x (by simpa using h)
 | [],_ :: _,r,_,_,_=>r.elim
 | _ :: _,[],r,_,_,_=>r.elim
theorem All2.mk {α β:Type} {R:α → β → Prop}:∀ {l:List α} {m:List β},l.length=m.length → (∀ (i:Nat) a b,l[i]? = some a → m[i]? = some b → R a b) → All2 R l m
 | [],[],_,_=>trivial
 | a :: as,b :: bs,hl,h=>⟨h 0 a b rfl rfl,All2.mk (by simpa using hl) fun i x y hx hy=>h (i + 1) x y (by simpa using hx) (by simpa using hy)⟩
 | [],_ :: _,hl,_=>by simp at hl
 | _ :: _,[],hl,_=>by simp at hl
theorem All2.set {α β:Type} {R:α → β → Prop} {l:List α} {m:List β} (h:All2 R l m) (i:Nat) {a:α} {b:β} (r:R a b):All2 R (l.set i a) (m.set i b):=by
 refine All2.mk (by simp [h.length]) fun j x y hx hy=>?_
 rw [List.getElem?_set] at hx hy
 by_cases e:i=j
 ·rw [if_pos e] at hx hy
  split at hx <;> split at hy <;> simp_all
 ·rw [if_neg e] at hx hy
  obtain ⟨b',hb,hr⟩:=h.get j x hx
  rw [hb] at hy;cases hy;exact hr
theorem All2.append {α β:Type} {R:α → β → Prop}:∀ {l:List α} {m:List β} {l':List α} {m':List β},All2 R l m → All2 R l' m' → All2 R (l ++ l') (m ++ m')
 | [],[],_,_,_,h=>h
 | _ :: _,_ :: _,_,_,r,h=>⟨r.1,All2.append r.2 h⟩
 | [],_ :: _,_,_,r,_=>r.elim
 | _ :: _,[],_,_,r,_=>r.elim
theorem All2.drop {α β:Type} {R:α → β → Prop} {l:List α} {m:List β} (h:All2 R l m) (n:Nat):All2 R (l.drop n) (m.drop n):=by
 refine All2.mk (by simp [h.length]) fun i a b ha hb=>?_
 rw [List.getElem?_drop] at ha hb
 obtain ⟨b',e,r⟩:=h.get _ _ ha
 rw [e] at hb;cases hb;exact r
theorem All2.take {α β:Type} {R:α → β → Prop} {l:List α} {m:List β} (h:All2 R l m) (n:Nat):All2 R (l.take n) (m.take n):=by
 refine All2.mk (by simp [h.length]) fun i a b ha hb=>?_
 rw [List.getElem?_take] at ha hb
 split at ha
 ·rename_i hi
  rw [if_pos hi] at hb
  obtain ⟨b',e,r⟩:=h.get _ _ ha
  rw [e] at hb;cases hb;exact r
 ·simp at ha
structure Gh.Le (g g':Gh):Prop where
 le:∀ k,g.tg k < g'.tg k ∨ (g'.tg k=g.tg k ∧ g'.blk k=g.blk k ∧ g'.rv k=g.rv k)
theorem Gh.Le.refl (g:Gh):g.Le g:=⟨fun _=>.inr ⟨rfl,rfl,rfl⟩⟩
theorem Gh.Le.trans {a b c:Gh} (h:a.Le b) (k:b.Le c):a.Le c:=⟨fun x=>by
 rcases h.le x with h1 | ⟨h1,h2,h3⟩ <;> rcases k.le x with k1 | ⟨k1,k2,k3⟩
 ·exact .inl (Nat.lt_trans h1 k1)
 ·exact .inl (by omega)
 ·exact .inl (by omega)
 ·exact .inr ⟨k1.trans h1,k2.trans h2,k3.trans h3⟩⟩
theorem Gh.Le.ref {g g':Gh} (a:g.Le g') {k t off:Nat} {y:Value} (r:y.oneCell'=true ∧ t ≤ g.tg k ∧ (t=g.tg k → y=ptr g k off)):y.oneCell'=true ∧ t ≤ g'.tg k ∧ (t=g'.tg k → y=ptr g' k off):=by
 rcases a.le k with h | ⟨h1,h2,_⟩
 ·exact ⟨r.1,by omega,fun e=>by omega⟩
 ·exact ⟨r.1,by omega,fun e=>by rw [r.2.2 (by omega)];simp [ptr,h2]⟩
theorem IsRef.mono {g g':Gh} (a:g.Le g') {k:Nat × Nat} {y:Value} (r:IsRef g k y):IsRef g' k y:=a.ref r
theorem RC.mono {g g':Gh} {w w':World} (h:Kp g w g' w') (a:g.Le g') {c:Cell} {y:Value} (r:RC g w c y):RC g' w' c y:=by
 cases c with
 | v x=>exact RD.mono h r
 | sl sz bs es=>exact RD.mono h r
 | cap sz bs es=>exact ⟨RD.mono h r.1,r.2⟩
 | ref k t off=>exact a.ref r
 | own k t=>
  obtain ⟨r0,r1,r2⟩:=r
  rcases a.le k with h | ⟨h1,_,h3⟩
  ·exact ⟨r0,by omega,fun e=>by omega⟩
  ·exact ⟨r0,by omega,fun e=>by rw [h3];exact r2 (by omega)⟩
 | elp cs j=>
  obtain ⟨ad,e,hh⟩:=r
  refine ⟨ad,e,fun i d hd=>?_⟩
  obtain ⟨x,h1,h2⟩:=hh i d hd
  exact ⟨x,h.lies h1,h2.mono h⟩
 | elw k t sz i j=>exact a.ref r
 | mp k t=>
  obtain ⟨r0,r1,r2⟩:=r
  rcases a.le k with h | ⟨h1,h2,_⟩
  ·exact ⟨r0,by omega,fun e=>by omega⟩
  ·exact ⟨r0,by omega,fun e=>by rw [h2];exact r2 (by omega)⟩
 | itr f k t=>
  obtain ⟨r0,r1,r2⟩:=r
  rcases a.le k with h' | ⟨h1,h2,_⟩
  ·exact ⟨r0,by omega,fun e=>by omega⟩
  ·refine ⟨r0,by omega,fun e=>?_⟩
   obtain ⟨b,e1,e4⟩:=r2 (by omega)
   exact ⟨b,e1,by rw [h2];exact h.lies e4⟩
 | bk f sz bs es=>
  obtain ⟨b,x,e,h1,h2⟩:=r
  exact ⟨b,x,e,h.lies h1,h2.mono h⟩
 | ifc ty k t=>
  obtain ⟨r0,r1,r2⟩:=r
  rcases a.le k with h | ⟨h1,h2,_⟩
  ·exact ⟨r0,by omega,fun e=>by omega⟩
  ·exact ⟨r0,by omega,fun e=>by simp only [ptr,h2];exact r2 (by omega)⟩
 | sob k t n=>
  obtain ⟨r0,r1,r2⟩:=r
  rcases a.le k with h | ⟨h1,h2,_⟩
  ·exact ⟨r0,by omega,fun e=>by omega⟩
  ·exact ⟨r0,by omega,fun e=>by rw [h2];exact r2 (by omega)⟩
 | clo f k1 k2=>
  obtain ⟨v1,v2,e,r1,r2⟩:=r
  exact ⟨v1,v2,e,r1.imp fun _ _ _ h=>h.mono a,r2.imp fun _ _ _ h=>h.mono a⟩
 | junk=>exact r
 | nsl sz bs es=>exact RD.mono h r
 | elx ad cs=>exact ⟨r.1,fun i d hd=>by obtain ⟨x,h1,h2⟩:=r.2 i d hd;exact ⟨x,h.lies h1,h2.mono h⟩⟩
theorem RC.monos {g g':Gh} {w w':World} (h:Kp g w g' w') (a:g.Le g') {cs:List Cell} {ys:List Value} (r:All2 (RC g w) cs ys):All2 (RC g' w') cs ys:=
 r.imp fun _ _ _ hy=>hy.mono h a
theorem RV1.mono {g g':Gh} {w w':World} (h:Kp g w g' w') (a:g.Le g') {x:AV} {y:Value} (r:RV1 g w x y):RV1 g' w' x y:=by
 cases x with
 | c x=>exact fun hx=>RC.mono h a (r hx)
 | agg cs=>
  obtain ⟨vs,e,hh⟩:=r
  exact ⟨vs,e,RC.monos h a hh⟩
 | tup l=>exact r.elim
 | gd b x=>exact r.elim
theorem RV2.mono {g g':Gh} {w w':World} (h:Kp g w g' w') (a:g.Le g') {x:AV} {y:Value} (r:RV2 g w x y):RV2 g' w' x y:=by
 cases x with
 | c x=>exact RV1.mono (x:=.c x) h a r
 | agg cs=>exact RV1.mono (x:=.agg cs) h a r
 | tup l=>
  obtain ⟨vs,e,hh⟩:=r
  exact ⟨vs,e,hh.imp fun _ _ _ hy=>hy.mono h a⟩
 | gd b x=>exact r.elim
theorem RV.mono {g g':Gh} {w w':World} (h:Kp g w g' w') (a:g.Le g') {x:AV} {y:Value} (r:RV g w x y):RV g' w' x y:=by
 cases x with
 | c x=>exact RV2.mono (x:=.c x) h a r
 | agg cs=>exact RV2.mono (x:=.agg cs) h a r
 | tup l=>exact RV2.mono (x:=.tup l) h a r
 | gd b x=>
  simp only [RV] at r ⊢
  split
  ·rename_i hb;rw [if_pos hb] at r;exact RV2.mono h a r
  ·rename_i hb;rw [if_neg hb] at r;exact r
end Go.Abs

namespace Go.Abs
inductive SArg where
 | t (n:Nat)
 | k (v:Value)
 | nil (sz bs:Nat)
 | f (n:Nat)
 deriving Inhabited
inductive SOp where
 | mv (x:SArg)
 | pick (c a b:SArg)
 | box (ty:Nat) (x:SArg)
 | alloc (ty:Nat) (zs:List Cell)
 | build (ty:Nat) (zs:List Cell) (ps:List (Nat × Nat × Nat × SArg))
 | lit (ty sz bs:Nat) (xs:List SArg)
 | ld1 (ty:Nat) (x:SArg)
 | ldf (ty:Nat) (x:SArg)
 | ldn (ty n:Nat) (x:SArg)
 | st1 (ty:Nat) (x v:SArg)
 | stn (ty n:Nat) (x v:SArg)
 | nilc (x:SArg)
 | bin (op:BinOp) (x y:SArg)
 | beq (neg:Bool) (ty:Nat) (x y:SArg)
 | aeq (neg:Bool) (ty:Nat) (x y:SArg)
 | not (x:SArg)
 | neg (x:SArg)
 | conv (t u:Nat) (k:IntKind) (x:SArg)
 | mkfn (f:Nat) (xs ys:List SArg)
 | mk (ty sz bs:Nat) (zs:List Cell) (n:SArg)
 | slc (ty sz bs:Nat) (x:SArg) (lo hi mx:Option SArg)
 | fad (ty i off:Nat) (x:SArg)
 | fld1 (ty i off:Nat) (x:SArg)
 | fldn (ty i off n:Nat) (x:SArg)
 | iad (ty sz:Nat) (x i:SArg)
 | iaa (ty sz n:Nat) (x i:SArg)
 | mkb (ty bs:Nat) (z:Cell) (n:SArg)
 | ext (x:SArg) (i:Nat)
 | len (ty:Nat) (x:SArg)
 | app (ty sz bs:Nat) (x y:SArg)
 | appm (ty sz bs:Nat) (x y:SArg)
 | shr (ty sz bs:Nat) (x h:SArg)
 | cut (ty sz:Nat) (x l:SArg)
 | appn (ty sz bs:Nat) (x y:SArg)
 | mki (ty:Nat) (x:SArg)
 | tas (ty:Nat) (x:SArg)
 | pan (x:SArg)
 | nileq (neg:Bool) (x:SArg)
 | best (mx:Bool) (xs:List SArg)
 | mkmap (one:Bool)
 | mset (one:Bool) (m k v:SArg)
 | mget (one ok:Bool) (zs:List Cell) (m k:SArg)
 | call (f:SArg) (xs:List SArg)
 | inv (f:Nat) (bp:Bool) (ty s:Nat) (xs:List SArg)
 deriving Inhabited
structure SO where
 dst:Option Nat
 gd:Option (Nat × Bool)
 op:SOp
 deriving Inhabited
inductive SCode where
 | skip
 | reg (ops:List SO)
 | dreg (anc:List Nat) (ops:List SO)
 | seq (a b:SCode)
 | cond (c:SArg) (a b:SCode)
 | block (id:Nat) (a:SCode)
 | loop (a:SCode)
 | exit (id:Nat)
 | ret
 | frz (k:Nat)
 | gh
 deriving Inhabited
structure St where
 sl:Nat → AV
 ob:Nat → Option Obj
 tg:Nat → Nat
def rcvE (σ:St) (bp:Bool) (ty:Nat):AV → AV
 | .c (.ifc ty' k t)=>if ty'=ty ∧ t=σ.tg k then (if bp then .c (.ref k t 0) else match σ.ob k with
   | some (.box _ [c])=>.c c
   | _=>.gd false (.c .junk)) else .gd false (.c .junk)
 | _=>.gd false (.c .junk)
def St.ev (σ:St):SArg → AV
 | .t n=>σ.sl n
 | .k v=>.c (.v v)
 | .nil sz bs=>.c (.cap sz bs [])
 | .f n=>.c (.clo n [] [])
structure Eff where
 val:AV
 pur:List Nat
 put:List (Nat × Obj)
 rd:List Nat
def upd (f:Nat → AV) (d:Nat) (x:AV):Nat → AV:=fun k=>if k=d then x else f k
def obAfter (pur:List Nat) (put:List (Nat × Obj)) (ob:Nat → Option Obj):Nat → Option Obj:=fun k=>
 match put.lookup k with
 | some o=>some o
 | none=>if pur.contains k then none else ob k
def St.ap (σ:St) (dst:Option Nat) (e:Eff):St where
 sl:=match dst with
  | some d=>upd σ.sl d e.val
  | none=>σ.sl
 ob:=obAfter e.pur e.put σ.ob
 tg:=fun k=>if e.pur.contains k then σ.tg k + 1 else σ.tg k
def Active (g:Gh) (k:Nat):Obj → Prop
 | .row ..=>∃ a n c,g.rv k=.slice a n c ∧ n < c
 | .cut ..=>∃ a n c,g.rv k=.slice a n c ∧ n < c
 | _=>True
def RowAt (f:Nat) (g:Gh) (w:World) (k ty sz bs:Nat) (es:List (List Cell)):Prop:=RD g w (.sl sz bs es) (g.rv k) ∧ ∀ a n c,g.rv k=.slice a n c → n < c →
 a=some ⟨g.blk k,f,none⟩ ∧ (∃ arr,w.heap[g.blk k]? = some (.cells arr ty (0,0)) ∧ arr.size=f + c * sz) ∧ ∀ o,g.st (g.blk k) o → o < f + n * sz
def ObOK (g:Gh) (w:World) (k:Nat):Obj → Prop
 | .cut ty sz bs es=>∃ f,RowAt f g w k ty sz bs es
 | .box ty cs=>∃ vs,w.heap[g.blk k]? = some (.cells vs ty (0,0)) ∧ All2 (RC g w) cs vs.toList ∧ ∀ o,¬ g.st (g.blk k) o
 | .row ty sz bs es=>RD g w (.sl sz bs es) (g.rv k) ∧ ∀ a n c,g.rv k=.slice a n c → n < c →
   a=some ⟨g.blk k,0,none⟩ ∧ (∃ arr,w.heap[g.blk k]? = some (.cells arr ty (0,0)) ∧ arr.size=c * sz) ∧ ∀ o,g.st (g.blk k) o → o < n * sz
 | .mrow ty sz bs es=>∃ arr c,g.rv k=.slice (some ⟨g.blk k,0,none⟩) es.length c ∧ es.length=c ∧ w.heap[g.blk k]? = some (.cells arr ty (0,0)) ∧ arr.size=c * sz ∧
   es.length * bs ≤ room ∧ (∀ l,l ∈ es → l.length=sz) ∧
   (∀ i j l d,es[i]? = some l → l[j]? = some d → ∃ x,arr[i * sz + j]? = some x ∧ RD g w d x) ∧ ∀ o,¬ g.st (g.blk k) o
 | .mob one es=>∃ arr clock,w.heap[g.blk k]? = some (.map arr clock) ∧ (∀ x,x ∈ arr.toList → x.born < clock) ∧ (arr.toList.map (·.born)).Nodup ∧
   All2 (fun (p:Int × List Cell) (x:MapEntry)=>x.key=.int .i64 p.1 ∧ (if one then ∃ c,p.2=[c] ∧ RD g w c x.val else ∃ vs,x.val=.agg vs ∧ All2 (RD g w) p.2 vs.toList)) es arr.toList ∧
   (es.map (·.1)).Nodup ∧ ∀ o,¬ g.st (g.blk k) o
def MV (g:Gh) (w:World) (one:Bool) (cs:List Cell) (y:Value):Prop:=if one then ∃ c,cs=[c] ∧ RD g w c y else ∃ vs,y=.agg vs ∧ All2 (RD g w) cs vs.toList
def ME (g:Gh) (w:World) (one:Bool) (p:Int × List Cell) (x:MapEntry):Prop:=x.key=.int .i64 p.1 ∧ MV g w one p.2 x.val
theorem MV.mono {g g':Gh} {w w':World} (h:Kp g w g' w') {one:Bool} {cs:List Cell} {y:Value} (r:MV g w one cs y):MV g' w' one cs y:=by
 cases one with
 | true=>obtain ⟨c,e,hc⟩:=r;exact ⟨c,e,hc.mono h⟩
 | false=>obtain ⟨vs,e,hc⟩:=r;exact ⟨vs,e,hc.imp fun _ _ _ q=>q.mono h⟩
structure Init where
 g0:Gh
 w0:World
 mine:Nat → Prop
 defs:List Deferred
structure Rel (I:Init) (n:Nat) (σ:St) (g:Gh) (a:Act) (w:World):Prop where
 size:a.tmps.size=n
 tags:∀ k,g.tg k=σ.tg k
 slots:∀ s,RV g w (σ.sl s) (a.tmps.getD s undef)
 defs:a.defers=I.defs
 obs:∀ k o,σ.ob k=some o → ObOK g w k o
 sep:∀ k k' o o',σ.ob k=some o → σ.ob k'=some o' → Active g k o → Active g k' o' → g.blk k=g.blk k' → k=k'
 wok:∀ b o,g.st b o → b < w.heap.size
 os:w.os=I.w0.os
 tape:w.tape=I.w0.tape
 out:w.output=I.w0.output
 grow:I.w0.heap.size ≤ w.heap.size
 frame:∀ b,b < I.w0.heap.size → ¬ I.mine b → w.heap[b]? = I.w0.heap[b]? ∧ ∀ o,g.st b o ↔ I.g0.st b o
 kp:Kp I.g0 I.w0 g w
 los:I.g0.lo ≤ I.w0.heap.size ∧ ∀ b,I.mine b → I.g0.lo ≤ b
 le:I.g0.Le g
 loc:∀ k o,σ.ob k=some o → Active g k o → I.mine (g.blk k) ∨ I.w0.heap.size ≤ g.blk k
theorem RC.one {g:Gh} {w:World} {c:Cell} {y:Value} (h:RC g w c y):y.oneCell'=true:=by
 cases c with
 | v x=>cases h with | v _ h=>exact h
 | sl=>cases h;rfl
 | cap=>obtain ⟨_,a,rfl⟩:=h;rfl
 | ref=>exact h.1
 | own=>exact h.1
 | elp=>obtain ⟨ad,rfl,_⟩:=h;rfl
 | elw=>exact h.1
 | mp=>exact h.1
 | itr=>exact h.1
 | ifc=>exact h.1
 | sob=>exact h.1
 | bk=>obtain ⟨b,x,rfl,_⟩:=h;rfl
 | clo=>obtain ⟨v1,v2,rfl,_⟩:=h;rfl
 | junk=>exact h
 | nsl=>cases h;rfl
 | elx=>rw [h.1];rfl
theorem All2.map_left {α β γ:Type} {R:α → β → Prop} {S:γ → β → Prop} (f:α → γ):∀ {l:List α} {m:List β},(∀ a b,R a b → S (f a) b) → All2 R l m → All2 S (l.map f) m
 | [],[],_,_=>trivial
 | _ :: _,_ :: _,h,r=>⟨h _ _ r.1,All2.map_left f h r.2⟩
 | [],_ :: _,_,r=>r.elim
 | _ :: _,[],_,r=>r.elim
theorem RowAt.row {g:Gh} {w:World} {k ty sz bs:Nat} {es:List (List Cell)} (h:RowAt 0 g w k ty sz bs es):ObOK g w k (.row ty sz bs es):=by simpa [RowAt,ObOK] using h
theorem RowAt.of {g:Gh} {w:World} {k ty sz bs:Nat} {es:List (List Cell)} (h:ObOK g w k (.row ty sz bs es)):RowAt 0 g w k ty sz bs es:=by simpa [RowAt,ObOK] using h
theorem ObOK.mono {g g':Gh} {w w':World} {k:Nat} {o:Obj} (h:Kp g w g' w') (a:g.Le g') (hk:g'.tg k=g.tg k)
  (hb:Active g k o → w'.heap[g.blk k]? = w.heap[g.blk k]? ∧ ∀ x,g'.st (g.blk k) x → g.st (g.blk k) x) (r:ObOK g w k o):ObOK g' w' k o:=by
 have ak:g'.blk k=g.blk k ∧ g'.rv k=g.rv k:=by
  rcases a.le k with h | ⟨_,h2,h3⟩
  ·omega
  ·exact ⟨h2,h3⟩
 cases o with
 | box ty cs=>
  obtain ⟨vs,e,hh,hs⟩:=r
  have hb:=hb trivial
  refine ⟨vs,by rw [ak.1,hb.1];exact e,RC.monos h a hh,fun x hx=>?_⟩
  rw [ak.1] at hx
  exact hs x (hb.2 x hx)
 | row ty sz bs es=>
  refine ⟨by rw [ak.2];exact r.1.mono h,fun p n c he hn=>?_⟩
  rw [ak.2] at he
  have hb:=hb ⟨p,n,c,he,hn⟩
  obtain ⟨h1,⟨arr,h2,h3⟩,h4⟩:=r.2 p n c he hn
  rw [ak.1]
  exact ⟨h1,⟨arr,by rw [hb.1];exact h2,h3⟩,fun x hx=>h4 x (hb.2 x hx)⟩
 | cut ty sz bs es=>
  obtain ⟨f,r⟩:=r
  refine ⟨f,by rw [ak.2];exact r.1.mono h,fun p n c he hn=>?_⟩
  rw [ak.2] at he
  have hb:=hb ⟨p,n,c,he,hn⟩
  obtain ⟨h1,⟨arr,h2,h3⟩,h4⟩:=r.2 p n c he hn
  rw [ak.1]
  exact ⟨h1,⟨arr,by rw [hb.1];exact h2,h3⟩,fun x hx=>h4 x (hb.2 x hx)⟩
 | mrow ty sz bs es=>
  obtain ⟨arr,c,h1,h2,h3,h4,h5,h6,h7,h8⟩:=r
  have hb:=hb trivial
  refine ⟨arr,c,by rw [ak.1,ak.2];exact h1,h2,by rw [ak.1,hb.1];exact h3,h4,h5,h6,fun i j l d e1 e2=>?_,fun x hx=>?_⟩
  ·obtain ⟨x,e,hx⟩:=h7 i j l d e1 e2
   exact ⟨x,e,hx.mono h⟩
  ·rw [ak.1] at hx
   exact h8 x (hb.2 x hx)
 | mob one es=>
  obtain ⟨arr,c,h1,h2,h3,h4,h5,h6⟩:=r
  have hb:=hb trivial
  refine ⟨arr,c,by rw [ak.1,hb.1];exact h1,h2,h3,h4.imp fun p hp x hx=>⟨hx.1,MV.mono h hx.2⟩,h5,fun x hx=>?_⟩
  rw [ak.1] at hx
  exact h6 x (hb.2 x hx)
end Go.Abs

namespace Go.Abs
structure Step (I:Init) (σ:St) (g:Gh) (w:World) (pur:List Nat) (put:List (Nat × Obj)) (g':Gh) (w':World):Prop where
 kp:Kp g w g' w'
 agree:∀ k,k ∉ pur → g'.tg k=g.tg k ∧ g'.blk k=g.blk k ∧ g'.rv k=g.rv k
 anew:∀ k,k ∈ pur → g'.tg k=g.tg k + 1
 puts:∀ k o,put.lookup k=some o → ObOK g' w' k o
 keep:∀ k o,σ.ob k=some o → Active g k o → put.lookup k=none → k ∉ pur → w'.heap[g.blk k]? = w.heap[g.blk k]? ∧ ∀ x,g'.st (g.blk k) x → g.st (g.blk k) x
 sep:∀ k o,put.lookup k=some o → Active g' k o → ∀ k' o',σ.ob k'=some o' → Active g k' o' → put.lookup k'=none → k' ∉ pur → g.blk k' ≠ g'.blk k
 seps:∀ k k' o o',put.lookup k=some o → put.lookup k'=some o' → Active g' k o → Active g' k' o' → g'.blk k=g'.blk k' → k=k'
 loc:∀ k o,put.lookup k=some o → Active g' k o → I.mine (g'.blk k) ∨ I.w0.heap.size ≤ g'.blk k
 wok:∀ b o,g'.st b o → b < w'.heap.size
 os:w'.os=w.os
 tape:w'.tape=w.tape
 out:w'.output=w.output
 grow:w.heap.size ≤ w'.heap.size
 frame:∀ b,b < I.w0.heap.size → ¬ I.mine b → w'.heap[b]? = w.heap[b]? ∧ ∀ o,g'.st b o ↔ g.st b o
theorem Step.ghLe {I:Init} {σ:St} {g g':Gh} {w w':World} {pur:List Nat} {put:List (Nat × Obj)} (h:Step I σ g w pur put g' w'):g.Le g':=⟨fun k=>by
 by_cases hk:k ∈ pur
 ·exact .inl (by have:=h.anew k hk;omega)
 ·exact .inr (h.agree k hk)⟩
theorem obAfter_some {pur:List Nat} {put:List (Nat × Obj)} {ob:Nat → Option Obj} {k:Nat} {o:Obj} (h:obAfter pur put ob k=some o) :
  put.lookup k=some o ∨ (put.lookup k=none ∧ k ∉ pur ∧ ob k=some o):=by
 unfold obAfter at h
 cases e:put.lookup k with
 | some o'=>rw [e] at h;exact .inl h
 | none=>
  rw [e] at h
  simp only at h
  split at h
  ·cases h
  ·rename_i hn
   exact .inr ⟨rfl,by simpa using hn,h⟩
theorem Act.getD_put {a:Act} {d:Nat} {v:Value} (h:d < a.tmps.size) (s:Nat):(a.put (some d) v).tmps.getD s undef=if s=d then v else a.tmps.getD s undef:=by
 simp only [Act.put]
 by_cases e:s=d
 ·subst e;simp [Array.getD,h]
 ·rw [if_neg e]
  simp only [Array.getD_eq_getD_getElem?]
  rw [Array.getElem?_setIfInBounds_ne (by omega)]
theorem Rel.step {I:Init} {n:Nat} {σ:St} {g g':Gh} {a:Act} {w w':World} {dst:Option Nat} {e:Eff} {v:Value} (hR:Rel I n σ g a w) (hd:∀ d,dst=some d → d < n)
  (hs:Step I σ g w e.pur e.put g' w') (hv:RV g' w' e.val v):Rel I n (σ.ap dst e) g' (a.put dst v) w':=by
 have hle:=hs.ghLe
 have hold:∀ s,RV g' w' (σ.sl s) (a.tmps.getD s undef):=fun s=>(hR.slots s).mono hs.kp hle
 have hact:∀ k o,k ∉ e.pur → (Active g' k o ↔ Active g k o):=fun k o hk=>by
  cases o with
  | row=>simp only [Active];rw [(hs.agree k hk).2.2]
  | cut=>simp only [Active];rw [(hs.agree k hk).2.2]
  | _=>exact Iff.rfl
 refine
  {size:=?_,tags:=?_,slots:=?_,defs:=?_,obs:=?_,sep:=?_,wok:=hs.wok,os:=hs.os.trans hR.os,tape:=hs.tape.trans hR.tape,out:=hs.out.trans hR.out,
   grow:=Nat.le_trans hR.grow hs.grow,frame:=?_,kp:=hR.kp.trans hs.kp,los:=hR.los,le:=hR.le.trans hle,loc:=?_ }
 ·cases dst <;> simp [Act.put,hR.size]
 ·intro k
  simp only [St.ap]
  by_cases hk:k ∈ e.pur
  ·rw [if_pos (by simpa using hk),hs.anew k hk,hR.tags]
  ·rw [if_neg (by simpa using hk),(hs.agree k hk).1,hR.tags]
 ·intro s
  cases dst with
  | none=>exact hold s
  | some d=>
   rw [Act.getD_put (by rw [hR.size];exact hd d rfl)]
   simp only [St.ap,upd]
   by_cases es:s=d
   ·rw [if_pos es,if_pos es];exact hv
   ·rw [if_neg es,if_neg es];exact hold s
 ·cases dst <;> exact hR.defs
 ·intro k o ho
  rcases obAfter_some ho with h | ⟨h1,h2,h3⟩
  ·exact hs.puts k o h
  ·exact ObOK.mono (g:=g) (w:=w) hs.kp hle (hs.agree k h2).1 (fun ha=>hs.keep k o h3 ha h1 h2) (hR.obs k o h3)
 ·intro k k' o o' ho ho' ha ha' hb
  rcases obAfter_some ho with h | ⟨h1,h2,h3⟩ <;> rcases obAfter_some ho' with h' | ⟨h1',h2',h3'⟩
  ·exact hs.seps k k' o o' h h' ha ha' hb
  ·have ha':=(hact k' o' h2').1 ha'
   exact absurd (by rw [← (hs.agree k' h2').2.1];exact hb.symm) (hs.sep k o h ha k' o' h3' ha' h1' h2')
  ·have ha:=(hact k o h2).1 ha
   exact absurd (by rw [← (hs.agree k h2).2.1];exact hb) (hs.sep k' o' h' ha' k o h3 ha h1 h2)
  ·have ha:=(hact k o h2).1 ha
   have ha':=(hact k' o' h2').1 ha'
   exact hR.sep k k' o o' h3 h3' ha ha' (by rw [← (hs.agree k h2).2.1,← (hs.agree k' h2').2.1];exact hb)
 ·intro b hb hm
  have h1:=hs.frame b hb hm
  have h2:=hR.frame b hb hm
  exact ⟨h1.1.trans h2.1,fun o=>(h1.2 o).trans (h2.2 o)⟩
 ·intro k o ho ha
  rcases obAfter_some ho with h | ⟨h1,h2,h3⟩
  ·exact hs.loc k o h ha
  ·rw [(hs.agree k h2).2.1]
   exact hR.loc k o h3 ((hact k o h2).1 ha)
theorem Step.quiet {I:Init} {σ:St} {g:Gh} {w:World} (hw:∀ b o,g.st b o → b < w.heap.size):Step I σ g w [] [] g w where
 kp:=Kp.refl g w
 agree _ _:=⟨rfl,rfl,rfl⟩
 anew k h:=by simp at h
 puts k o h:=by simp at h
 keep _ _ _ _ _ _:=⟨rfl,fun _ h=>h⟩
 sep k o h:=by simp at h
 seps k k' o o' h:=by simp at h
 loc k o h:=by simp at h
 wok:=hw
 os:=rfl
 tape:=rfl
 out:=rfl
 grow:=Nat.le_refl _
 frame _ _ _:=⟨rfl,fun _=>Iff.rfl⟩
theorem Rel.drew {I:Init} {n:Nat} {σ:St} {g:Gh} {a:Act} {w:World} (hR:Rel I n σ g a w) (m:Nat):Rel I n σ g a { w with drawn:=m }:=by
 have hk:Kp g w g { w with drawn:=m }:=⟨fun a h=>⟨h,rfl⟩,rfl,fun _ _ _ _ _ h=>h⟩
 exact
  {size:=hR.size,tags:=hR.tags,slots:=fun s=>(hR.slots s).mono hk (Gh.Le.refl g),defs:=hR.defs,obs:=fun k o h=>(hR.obs k o h).mono hk (Gh.Le.refl g) rfl (fun _=>⟨rfl,fun _ h=>h⟩),sep:=hR.sep,wok:=hR.wok,
   os:=hR.os,tape:=hR.tape,out:=hR.out,grow:=hR.grow,frame:=hR.frame,kp:=hR.kp.trans hk,los:=hR.los,le:=hR.le,loc:=hR.loc }
end Go.Abs

namespace Go.Abs
def un:AV → AV
 | .gd _ x=>x
 | x=>x
def toD (σ:St):Cell → Cell
 | .own k t=>if t=σ.tg k then match σ.ob k with
   | some (.row _ sz bs es)=>.sl sz bs es
   | _=>.own k t
  else .own k t
 | .cap sz bs es=>.sl sz bs es
 | c=>c
def Cell.plain:Cell → Cell
 | .cap sz bs es=>.sl sz bs es
 | c=>c
def toD1 (σ:St):AV → AV
 | .c x=>.c (toD σ x)
 | .agg cs=>.agg (cs.map (toD σ))
 | x=>x
def Cell.isD:Cell → Bool
 | .v _=>true
 | .sl ..=>true
 | .nsl ..=>true
 | _=>false
def cellsOf:AV → Option (List Cell)
 | .c .junk=>none
 | .c x=>some [x]
 | .agg cs=>some cs
 | _=>none
def elems (σ:St):AV → Option (Nat × Nat × List (List Cell))
 | .c (.sl sz bs es)=>some (sz,bs,es)
 | .c (.cap sz bs es)=>some (sz,bs,es)
 | .c (.own k t)=>if t=σ.tg k then match σ.ob k with
   | some (.row _ sz bs es)=>some (sz,bs,es)
   | _=>none
  else none
 | _=>none
def putC (cs:List Cell) (off:Nat) (xs:List Cell):List Cell:=cs.take off ++ xs ++ cs.drop (off + xs.length)
def fillC:List Cell → List (Nat × List Cell) → List Cell
 | cs,[]=>cs
 | cs,(off,xs) :: r=>fillC (putC cs off xs) r
def pickv (t:Bool):AV → AV → AV
 | .c (.v (.bool p)),.c (.v (.bool q))=>.c (.v (.bool (bif t then p else q)))
 | x,y=>if t then x else y
def binV (op:BinOp):Value → Value → Option Value
 | .int k a,.int k' b=>
  if k=k' then
   match op with
   | .add=>some (.int k (k.wrap (a + b)))
   | .sub=>some (.int k (k.wrap (a - b)))
   | .mul=>some (.int k (k.wrap (a * b)))
   | .quo=>some (.int k (k.wrap (a.tdiv b)))
   | .rem=>some (.int k (a.tmod b))
   | .eql=>some (.bool (a == b))
   | .neq=>some (.bool (a != b))
   | .lss=>some (.bool (a < b))
   | .leq=>some (.bool (a ≤ b))
   | .gtr=>some (.bool (a > b))
   | .geq=>some (.bool (a ≥ b))
   | _=>none
  else none
 | _,_=>none
def best2 (mx:Bool) (a b:Int):Int:=if mx then (if b > a then b else a) else (if b < a then b else a)
def bestL (mx:Bool) (k:IntKind):Int → List AV → Option Int
 | a,[]=>some a
 | a,x :: r=>match un x with
  | .c (.v (.int k' b))=>if k=k' then bestL mx k (best2 mx a b) r else none
  | _=>none
def refKey:AV → Option (Nat × Nat)
 | .c (.ref k t 0)=>some (k,t)
 | _=>none
def refKeys:List AV → Option (List (Nat × Nat))
 | []=>some []
 | x :: r=>match refKey (un x),refKeys r with
  | some k,some l=>some (k :: l)
  | _,_=>none
def litEs (σ:St):List AV → Option (List (List Cell))
 | []=>some []
 | x :: r=>match cellsOf (un x),litEs σ r with
  | some cs,some l=>some (cs.map (toD σ) :: l)
  | _,_=>none
def partCs:(SArg → AV) → List (Nat × Nat × Nat × SArg) → Option (List (Nat × List Cell))
 | _,[]=>some []
 | ρ,(_,off,_,x) :: r=>match cellsOf (un (ρ x)),partCs ρ r with
  | some cs,some l=>some ((off,cs) :: l)
  | _,_=>none
def Eff.pure (x:AV):Eff:=⟨x,[],[],[]⟩
def Eff.look (x:AV) (l:List Nat):Eff:=⟨x,[],[],l⟩
def loadAt (σ:St) (one:Bool) (n:Nat):AV → Option Eff
 | .c (.ref k t off)=>if t=σ.tg k then match σ.ob k with
   | some (.box _ cs)=>if one then match cs[off]? with
     | some c=>some (.look (.c c) [k])
     | none=>none
    else if off + n ≤ cs.length then some (.look (.agg ((cs.drop off).take n)) [k]) else none
   | _=>none
  else none
 | .c (.elp cs j)=>if one then match cs[j]? with
    | some c=>some (.pure (.c c))
    | none=>none
   else if j + n ≤ cs.length then some (.pure (.agg ((cs.drop j).take n))) else none
 | .c (.elw k t sz i j)=>if t=σ.tg k then match σ.ob k with
   | some (.mrow _ sz' _ es)=>if sz=sz' then
     match es[i]? with
     | some cs=>if one then match cs[j]? with
       | some c=>some (.look (.c c) [k])
       | none=>none
      else if j + n ≤ cs.length then some (.look (.agg ((cs.drop j).take n)) [k]) else none
     | none=>none
    else none
   | _=>none
  else none
 | .c (.elx _ cs)=>if one then match cs[0]? with
    | some c=>some (.pure (.c c))
    | none=>none
   else if 0 + n ≤ cs.length then some (.pure (.agg ((cs.drop 0).take n))) else none
 | _=>none
def storeAt (σ:St) (n:Nat) (xs:List Cell):AV → Option Eff
 | .c (.ref k t off)=>if t=σ.tg k then match σ.ob k with
   | some (.box ty cs)=>if xs.length=n ∧ off + n ≤ cs.length then some ⟨.tup [],[],[(k,.box ty (putC cs off xs))],k :: keysCs xs⟩ else none
   | _=>none
  else none
 | .c (.elw k t sz i j)=>if t=σ.tg k then match σ.ob k with
   | some (.mrow ty sz' bs es)=>if sz=sz' ∧ xs.length=n ∧ (xs.map (toD σ)).all Cell.isD=true then
     match es[i]? with
     | some cs=>if j + n ≤ cs.length then some ⟨.tup [],[],[(k,.mrow ty sz bs (es.set i (putC cs j (xs.map (toD σ)))))],k :: keysCs xs⟩ else none
     | none=>none
    else none
   | _=>none
  else none
 | _=>none
def intOf?:AV → Option Int
 | .c (.v (.int .i64 n))=>some n
 | _=>none
def msetL (es:List (Int × List Cell)) (n:Int) (cs:List Cell):List (Int × List Cell):=match es.findIdx? (fun p=>p.1 == n) with
 | some j=>es.set j (n,cs)
 | none=>es ++ [(n,cs)]
def mgetL (es:List (Int × List Cell)) (n:Int):Option (List Cell):=(es.find? (fun p=>p.1 == n)).map (·.2)
def mval (one:Bool) (cs:List Cell):AV:=if one then .c (cs.headD .junk) else .agg cs
def mres (one ok:Bool) (zs:List Cell):Option (List Cell) → AV
 | some cs=>if ok then .tup [mval one cs,.c (.v (.bool true))] else mval one cs
 | none=>if ok then .tup [mval one (zs.map Cell.plain),.c (.v (.bool false))] else mval one (zs.map Cell.plain)
def mcells (one:Bool):AV → Option (List Cell)
 | .c .junk=>none
 | .c x=>if one then some [x] else none
 | .agg cs=>if one then none else some cs
 | _=>none
def msetAt (σ:St) (one:Bool) (n:Int) (cs:List Cell):AV → Option Eff
 | .c (.mp k t)=>if t=σ.tg k then match σ.ob k with
   | some (.mob one' es)=>if one'=one ∧ (cs.map (toD σ)).all Cell.isD=true then some ⟨.tup [],[],[(k,.mob one (msetL es n (cs.map (toD σ))))],k :: keysCs cs⟩ else none
   | _=>none
  else none
 | _=>none
def mgetAt (σ:St) (one ok:Bool) (zs:List Cell) (n:Int):AV → Option Eff
 | .c (.mp k t)=>if t=σ.tg k then match σ.ob k with
   | some (.mob one' es)=>if one'=one then some (.look (mres one ok zs (mgetL es n)) [k]) else none
   | _=>none
  else none
 | _=>none
def rowAt (σ:St) (ty:Nat):AV → Option (Nat × Nat × Nat × List (List Cell))
 | .c (.own k t)=>if t=σ.tg k then match σ.ob k with
   | some (.row ty' sz bs es)=>if ty'=ty then some (k,sz,bs,es) else none
   | some (.cut ty' sz bs es)=>if ty'=ty then some (k,sz,bs,es) else none
   | _=>none
  else none
 | _=>none
def cutE (key tk ty:Nat):Option (Nat × Nat × Nat × List (List Cell)) → Option Int → Option Eff
 | some (k,sz,bs,es),some l=>some ⟨.c (.own key (tk + 1)),[key,k],[(key,.cut ty sz bs (es.drop l.toNat))],[k]⟩
 | _,_=>none
def cutC (sz:Nat):Option (Nat × Nat × Nat × List (List Cell)) → Option Int → Prop
 | some (_,sx,_,es),some l=>sx=sz ∧ 0 ≤ l ∧ l ≤ es.length
 | _,_=>True
def mrowAt (σ:St) (ty:Nat):AV → Option (Nat × Nat × List (List Cell))
 | .c (.own k t)=>if t=σ.tg k then match σ.ob k with
   | some (.mrow ty' sz _ es)=>if ty'=ty then some (k,sz,es) else none
   | some (.row ty' sz _ [])=>if ty'=ty then some (k,sz,[]) else none
   | _=>none
  else none
 | _=>none
def appmE (key tk ty sz bs:Nat) (x:AV) (rd:List Nat) (_:Option (Nat × Nat × List (List Cell))) (_:Option (Nat × Nat × List (List Cell))):Option Eff:=none
def appmC (sz bs:Nat):Option (Nat × Nat × List (List Cell)) → Option (Nat × Nat × List (List Cell)) → Prop
 | some (_,sx,es),some (sy,_,y :: ys)=>sx=sz ∧ sy=sz ∧ (es.length + (ys.length + 1)) * bs ≤ room
 | _,_=>True
def shrE (key tk ty sz bs:Nat) (_:Option (Nat × Nat × List (List Cell))) (_:Option Int):Option Eff:=none
def shrC (sz bs:Nat):Option (Nat × Nat × List (List Cell)) → Option Int → Prop
 | some (_,sx,es),some h=>sx=sz ∧ 0 < es.length ∧ 0 ≤ h ∧ h ≤ es.length ∧ es.length * bs ≤ room
 | _,_=>True
def ldfE:Option Eff → Option Eff
 | some e=>match e.val with
  | .c (.v (.func (.func f) v1 v2))=>if v1.size=0 ∧ v2.size=0 then some ⟨.c (.clo f [] []),e.pur,e.put,e.rd⟩ else none
  | _=>none
 | none=>none
def mkiE (σ:St) (ty:Nat):AV → Option Eff
 | .c (.v v)=>some (.pure (.c (.v (.iface ty v))))
 | .c (.ref k t 0)=>if t=σ.tg k then some (.look (.c (.ifc ty k t)) [k]) else none
 | _=>none
def tasE (ty:Nat):AV → Option Eff
 | .c (.v (.iface t (.int k n)))=>if t=ty then some (.pure (.tup [.c (.v (.int k n)),.c (.v (.bool true))])) else none
 | _=>none
def iaaE (σ:St) (sz:Nat):Option Int → AV → Option Eff
 | some i,.c (.ref k t o)=>if t=σ.tg k then some (.look (.c (.ref k t (o + i.toNat * sz))) [k]) else none
 | some i,.c (.elp cs j)=>some (.pure (.c (.elp cs (j + i.toNat * sz))))
 | some i,.c (.elw k t s p j)=>if t=σ.tg k then some (.look (.c (.elw k t s p (j + i.toNat * sz))) [k]) else none
 | _,_=>none
def appnE (key tk ty sz bs:Nat) (rd:List Nat) (_:AV) (_:Option (Nat × Nat × List (List Cell))):Option Eff:=none
def appnC (sz bs:Nat):Option (Nat × Nat × List (List Cell)) → Prop
 | some (sy,_,ys)=>sy=sz ∧ 0 < ys.length ∧ ys.length * bs ≤ room
 | none=>True
def nileqE (neg:Bool):Option (Nat × Nat × List (List Cell)) → Option Eff
 | some (_ + 1,_,_ :: _)=>some (.pure (.c (.v (.bool neg))))
 | _=>none
def ev1 (key:Nat) (ρ:SArg → AV) (σ:St):SOp → Option Eff
 | .mv x=>some (.pure (un (ρ x)))
 | .pick c a b=>match un (ρ c) with
  | .c (.v (.bool t))=>some (.pure (pickv t (un (ρ a)) (un (ρ b))))
  | _=>none
 | .box ty x=>match cellsOf (un (ρ x)) with
  | some cs=>some ⟨.c (.ref key (σ.tg key + 1) 0),[key],[(key,.box ty cs)],keysCs cs⟩
  | none=>none
 | .alloc ty zs=>some ⟨.c (.ref key (σ.tg key + 1) 0),[key],[(key,.box ty zs)],[]⟩
 | .build _ zs ps=>match partCs ρ ps with
  | some l=>some (.pure (.agg (fillC zs l)))
  | none=>none
 | .lit _ sz bs xs=>match litEs σ (xs.map ρ) with
  | some es=>some (.look (.c (.cap sz bs es)) (xs.flatMap fun x=>(un (ρ x)).keys1))
  | none=>none
 | .ld1 _ x=>loadAt σ true 0 (un (ρ x))
 | .ldf _ x=>ldfE (loadAt σ true 0 (un (ρ x)))
 | .ldn _ n x=>loadAt σ false n (un (ρ x))
 | .st1 _ x v=>match cellsOf (un (ρ v)) with
  | some cs=>storeAt σ 1 cs (un (ρ x))
  | none=>none
 | .stn _ n x v=>match cellsOf (un (ρ v)) with
  | some cs=>storeAt σ n cs (un (ρ x))
  | none=>none
 | .nilc x=>match un (ρ x) with
  | .c (.ref k t off)=>if t=σ.tg k then some (.look (.c (.ref k t off)) [k]) else none
  | .c (.elp cs j)=>some (.pure (.c (.elp cs j)))
  | _=>none
 | .beq neg _ x y=>match un (ρ x),un (ρ y) with
  | .c (.v (.bool a)),.c (.v (.bool b))=>some (.pure (.c (.v (.bool (if neg then a != b else a == b)))))
  | _,_=>none
 | .aeq neg _ x y=>match un (ρ x),un (ρ y) with
  | .agg [.v (.int k a),.v (.int k1 b)],.agg [.v (.int k2 c),.v (.int k3 d)]=>if k=k2 ∧ k1=k3 then some (.pure (.c (.v (.bool (if neg then !(a == c && b == d) else (a == c && b == d)))))) else none
  | _,_=>none
 | .bin op x y=>match un (ρ x),un (ρ y) with
  | .c (.v a),.c (.v b)=>match binV op a b with
   | some v=>some (.pure (.c (.v v)))
   | none=>none
  | _,_=>none
 | .not x=>match un (ρ x) with
  | .c (.v (.bool b))=>some (.pure (.c (.v (.bool (!b)))))
  | _=>none
 | .neg x=>match un (ρ x) with
  | .c (.v (.int k n))=>some (.pure (.c (.v (.int k (k.wrap (0 - n))))))
  | _=>none
 | .conv _ _ k x=>match un (ρ x) with
  | .c (.v (.int _ n))=>some (.pure (.c (.v (.int k (k.wrap n)))))
  | _=>none
 | .mkfn f xs ys=>match refKeys (xs.map ρ),refKeys (ys.map ρ) with
  | some k1,some k2=>some (.pure (.c (.clo f k1 k2)))
  | _,_=>none
 | .mk ty sz bs zs n=>match un (ρ n) with
  | .c (.v (.int .i64 m))=>some ⟨.c (.own key (σ.tg key + 1)),[key],[(key,.mrow ty sz bs (List.replicate m.toNat (zs.map Cell.plain)))],[]⟩
  | _=>none
 | .slc _ sz bs x lo hi mx=>match elems σ (un (ρ x)) with
  | some (_,_,es)=>
   let l:=match lo with | some y=>intOf? (un (ρ y)) | none=>some 0
   let h:=match hi with | some y=>intOf? (un (ρ y)) | none=>some (es.length:Int)
   match l,h with
   | some l,some h=>match mx with
    | none=>some (.look (.c (.sl sz bs ((es.take h.toNat).drop l.toNat))) (un (ρ x)).keys1)
    | some y=>match intOf? (un (ρ y)) with
     | some _=>some (.look (.c (.cap sz bs ((es.take h.toNat).drop l.toNat))) (un (ρ x)).keys1)
     | none=>none
   | _,_=>none
  | none=>none
 | .fad _ _ off x=>match un (ρ x) with
  | .c (.ref k t o)=>if t=σ.tg k then some (.look (.c (.ref k t (o + off))) [k]) else none
  | .c (.elp cs j)=>some (.pure (.c (.elp cs (j + off))))
  | .c (.elw k t sz i j)=>if t=σ.tg k then some (.look (.c (.elw k t sz i (j + off))) [k]) else none
  | _=>none
 | .fld1 _ _ off x=>match un (ρ x) with
  | .agg cs=>match cs[off]? with
   | some c=>some (.pure (.c c))
   | none=>none
  | _=>none
 | .fldn _ _ off n x=>match un (ρ x) with
  | .agg cs=>if off + n ≤ cs.length then some (.pure (.agg ((cs.drop off).take n))) else none
  | _=>none
 | .iad _ sz x i=>match intOf? (un (ρ i)) with
  | some n=>match un (ρ x) with
   | .c (.own k t)=>if t=σ.tg k then match σ.ob k with
     | some (.mrow _ sz' _ _)=>if sz=sz' then some (.look (.c (.elw k t sz n.toNat 0)) [k]) else none
     | some (.row _ sz' _ es)=>if sz=sz' then some (.look (.c (.elp (es.getD n.toNat []) 0)) [k]) else none
     | some (.cut _ sz' _ es)=>if sz=sz' then some (.look (.c (.elp (es.getD n.toNat []) 0)) [k]) else none
     | _=>none
    else none
   | .c (.sl sz' _ es)=>if sz=sz' ∨ es=[] then some (.pure (.c (.elp (es.getD n.toNat []) 0))) else none
   | .c (.cap sz' _ es)=>if sz=sz' ∨ es=[] then some (.pure (.c (.elp (es.getD n.toNat []) 0))) else none
   | .c (.sob k t _)=>if t=σ.tg k ∧ sz=1 then some (.look (.c (.ref k t n.toNat)) [k]) else none
   | _=>none
  | none=>none
 | .iaa _ sz _ x i=>iaaE σ sz (intOf? (un (ρ i))) (un (ρ x))
 | .mkb ty _ z n=>match un (ρ n) with
  | .c (.v (.int .i64 m))=>some ⟨.c (.sob key (σ.tg key + 1) m.toNat),[key],[(key,.box ty (List.replicate m.toNat z))],[]⟩
  | _=>none
 | .ext x i=>match un (ρ x) with
  | .tup l=>match l[i]? with
   | some x=>some (.pure x)
   | none=>none
  | _=>none
 | .len _ x=>match un (ρ x) with
  | .c (.own k t)=>if t=σ.tg k then match σ.ob k with
    | some (.mrow _ _ _ es)=>some (.look (.c (.v (.int .i64 es.length))) [k])
    | some (.row _ _ _ es)=>some (.look (.c (.v (.int .i64 es.length))) [k])
    | some (.cut _ _ _ es)=>some (.look (.c (.v (.int .i64 es.length))) [k])
    | _=>none
   else none
  | .c (.sl _ _ es)=>some (.pure (.c (.v (.int .i64 es.length))))
  | .c (.cap _ _ es)=>some (.pure (.c (.v (.int .i64 es.length))))
  | _=>none
 | .app ty sz bs x y=>match elems σ (un (ρ y)) with
  | some (_,_,ys)=>match un (ρ x) with
   | .c (.cap _ _ es)=>some ⟨.c (.own key (σ.tg key + 1)),[key],[(key,.row ty sz bs (es ++ ys))],(un (ρ y)).keys1⟩
   | .c (.own k t)=>if t=σ.tg k then match σ.ob k with
     | some (.row ty' _ _ es)=>if ty'=ty then some ⟨.c (.own key (σ.tg key + 1)),[key,k],[(key,.row ty sz bs (es ++ ys))],k :: (un (ρ y)).keys1⟩ else none
     | some (.mrow ty' _ _ es)=>if ty'=ty then some ⟨.c (.own key (σ.tg key + 1)),[key,k],[(key,.row ty sz bs (es ++ ys))],k :: (un (ρ y)).keys1⟩ else none
     | some (.cut ty' _ _ es)=>if ty'=ty then some ⟨.c (.own key (σ.tg key + 1)),[key,k],[(key,.cut ty sz bs (es ++ ys))],k :: (un (ρ y)).keys1⟩ else none
     | _=>none
    else none
   | _=>none
  | none=>none
 | .appm ty sz bs x y=>appmE key (σ.tg key) ty sz bs (un (ρ x)) (un (ρ y)).keys1 (mrowAt σ ty (un (ρ x))) (elems σ (un (ρ y)))
 | .cut ty sz x l=>cutE key (σ.tg key) ty (rowAt σ ty (un (ρ x))) (intOf? (un (ρ l)))
 | .shr ty sz bs x h=>shrE key (σ.tg key) ty sz bs (mrowAt σ ty (un (ρ x))) (intOf? (un (ρ h)))
 | .mki ty x=>mkiE σ ty (un (ρ x))
 | .tas ty x=>tasE ty (un (ρ x))
 | .pan _=>none
 | .appn ty sz bs x y=>appnE key (σ.tg key) ty sz bs (un (ρ y)).keys1 (un (ρ x)) (elems σ (un (ρ y)))
 | .nileq neg x=>nileqE neg (elems σ (un (ρ x)))
 | .best mx xs=>match xs.map ρ with
  | x :: r=>match un x with
   | .c (.v (.int k a))=>match bestL mx k a r with
    | some m=>some (.pure (.c (.v (.int k m))))
    | none=>none
   | _=>none
  | []=>none
 | .mkmap one=>some ⟨.c (.mp key (σ.tg key + 1)),[key],[(key,.mob one [])],[]⟩
 | .mset one m k v=>match intOf? (un (ρ k)) with
  | some n=>match mcells one (un (ρ v)) with
   | some cs=>msetAt σ one n cs (un (ρ m))
   | none=>none
  | none=>none
 | .mget one ok zs m k=>match intOf? (un (ρ k)) with
  | some n=>mgetAt σ one ok zs n (un (ρ m))
  | none=>none
 | .call _ _=>none
 | .inv _ _ _ _ _=>none
def gok (β:Bool):AV → Prop
 | .gd b _=>β=true → b=true
 | _=>True
def cond (β:Bool) (ρ:SArg → AV) (σ:St):SOp → Prop
 | .mv x=>gok β (ρ x)
 | .pick c a b=>gok β (ρ c) ∧ (match un (ρ c) with | .c (.v (.bool t))=>gok (β && t) (ρ a) ∧ gok (β && !t) (ρ b) | _=>True)
 | .box _ x=>gok β (ρ x)
 | .alloc _ _=>True
 | .build _ zs ps=>(∀ p,p ∈ ps → gok β (ρ p.2.2.2)) ∧ ∀ p,p ∈ ps → ∀ cs,cellsOf (un (ρ p.2.2.2))=some cs → cs.length=p.2.2.1 ∧ p.2.1 + p.2.2.1 ≤ zs.length
 | .lit _ sz bs xs=>(∀ x,x ∈ xs → gok β (ρ x)) ∧ ∀ es,litEs σ (xs.map ρ)=some es → (∀ l,l ∈ es → l.length=sz ∧ l.all Cell.isD=true) ∧ (β=true → es.length * bs ≤ room ∧ es.length * sz ≤ 16777216)
 | .ld1 _ x=>gok β (ρ x)
 | .ldf _ x=>gok β (ρ x)
 | .ldn _ _ x=>gok β (ρ x)
 | .st1 _ x v=>gok β (ρ x) ∧ gok β (ρ v)
 | .stn _ _ x v=>gok β (ρ x) ∧ gok β (ρ v)
 | .nilc x=>gok β (ρ x)
 | .beq _ _ x y=>gok β (ρ x) ∧ gok β (ρ y)
 | .aeq _ _ x y=>gok β (ρ x) ∧ gok β (ρ y)
 | .bin op x y=>gok β (ρ x) ∧ gok β (ρ y) ∧ (match op,un (ρ y) with | .quo,.c (.v (.int _ b))=>β=true → b ≠ 0 | .rem,.c (.v (.int _ b))=>β=true → b ≠ 0 | _,_=>True)
 | .not x=>gok β (ρ x)
 | .neg x=>gok β (ρ x)
 | .conv _ _ _ x=>gok β (ρ x)
 | .mkfn _ xs ys=>(∀ x,x ∈ xs → gok β (ρ x)) ∧ ∀ x,x ∈ ys → gok β (ρ x)
 | .mk _ sz bs zs n=>gok β (ρ n) ∧ (match un (ρ n) with | .c (.v (.int .i64 m))=>β=true → 0 ≤ m ∧ m * bs ≤ room | _=>True)
 | .slc _ sz bs x lo hi mx=>gok β (ρ x) ∧ (∀ y,lo=some y → gok β (ρ y)) ∧ (∀ y,hi=some y → gok β (ρ y)) ∧ (∀ y,mx=some y → gok β (ρ y)) ∧
   (β=true → ∀ q,elems σ (un (ρ x))=some q → (q.1=sz ∨ q.2.2=[]) ∧ q.2.2.length * bs ≤ room ∧
    ∀ l h:Int,(match lo with | some y=>intOf? (un (ρ y)) | none=>some (0:Int))=some l → (match hi with | some y=>intOf? (un (ρ y)) | none=>some (q.2.2.length:Int))=some h →
     0 ≤ l ∧ l ≤ h ∧ h ≤ q.2.2.length ∧ ∀ y,mx=some y → intOf? (un (ρ y))=some h)
 | .fad _ _ _ x=>gok β (ρ x)
 | .fld1 _ _ _ x=>gok β (ρ x)
 | .fldn _ _ _ _ x=>gok β (ρ x)
 | .iad _ sz x i=>gok β (ρ x) ∧ gok β (ρ i) ∧ (β=true → ∀ n,intOf? (un (ρ i))=some n → 0 ≤ n ∧
   (match un (ρ x) with
   | .c (.own k _)=>(match σ.ob k with
    | some (.mrow _ _ _ es)=>n < es.length
    | some (.row _ _ _ es)=>n < es.length
    | some (.cut _ _ _ es)=>n < es.length
    | _=>True)
   | .c (.sl _ _ es)=>n < es.length
   | .c (.cap _ _ es)=>n < es.length
   | .c (.sob _ _ m)=>n < m
   | _=>True))
 | .iaa _ _ m x i=>gok β (ρ x) ∧ gok β (ρ i) ∧ (β=true → ∀ n,intOf? (un (ρ i))=some n → 0 ≤ n ∧ n < m)
 | .mkb _ bs _ n=>gok β (ρ n) ∧ (match un (ρ n) with | .c (.v (.int .i64 m))=>β=true → 0 ≤ m ∧ m * bs ≤ room | _=>True)
 | .ext x _=>gok β (ρ x)
 | .len _ x=>gok β (ρ x)
 | .app _ sz bs x y=>gok β (ρ x) ∧ gok β (ρ y) ∧ (β=true → ∀ q,elems σ (un (ρ y))=some q → (q.1=sz ∨ q.2.2=[]) ∧
   (match un (ρ x) with
   | .c (.cap sz' _ es)=>(sz'=sz ∨ es=[]) ∧ (es.length + q.2.2.length) * bs ≤ room
   | .c (.own k _)=>(match σ.ob k with
    | some (.row _ sz' _ es)=>sz'=sz ∧ (es.length + q.2.2.length) * bs ≤ room
    | some (.mrow _ sz' _ es)=>sz'=sz ∧ (es.length + q.2.2.length) * bs ≤ room
    | some (.cut _ sz' _ es)=>sz'=sz ∧ (es.length + q.2.2.length) * bs ≤ room
    | _=>True)
   | _=>True))
 | .appm ty sz bs x y=>gok β (ρ x) ∧ gok β (ρ y) ∧ (β=true → appmC sz bs (mrowAt σ ty (un (ρ x))) (elems σ (un (ρ y))))
 | .cut ty sz x l=>gok β (ρ x) ∧ gok β (ρ l) ∧ (β=true → cutC sz (rowAt σ ty (un (ρ x))) (intOf? (un (ρ l))))
 | .shr ty sz bs x h=>gok β (ρ x) ∧ gok β (ρ h) ∧ (β=true → shrC sz bs (mrowAt σ ty (un (ρ x))) (intOf? (un (ρ h))))
 | .mki _ x=>gok β (ρ x)
 | .tas _ x=>gok β (ρ x)
 | .pan x=>gok β (ρ x)
 | .appn _ sz bs x y=>gok β (ρ x) ∧ gok β (ρ y) ∧ (β=true → appnC sz bs (elems σ (un (ρ y))))
 | .nileq _ x=>gok β (ρ x)
 | .best _ xs=>∀ x,x ∈ xs → gok β (ρ x)
 | .mkmap _=>True
 | .mset _ m k v=>gok β (ρ m) ∧ gok β (ρ k) ∧ gok β (ρ v)
 | .mget _ _ _ m k=>gok β (ρ m) ∧ gok β (ρ k)
 | .call _ _=>True
 | .inv _ _ _ _ _=>True
end Go.Abs

namespace Go.Abs
def scEq:Value → Value → Bool
 | .int k a,.int k' b=>decide (k=k') && decide (a=b)
 | .bool a,.bool b=>decide (a=b)
 | .string a,.string b=>decide (a.data=b.data)
 | .nilIface,.nilIface=>true
 | .nilFunc,.nilFunc=>true
 | _,_=>false
theorem scEq_spec {x y:Value} (h:scEq x y=true):x=y ∧ x.oneCell'=true:=by
 cases x <;> cases y <;> simp [scEq] at h
 ·subst h;exact ⟨rfl,rfl⟩
 ·obtain ⟨rfl,rfl⟩:=h;exact ⟨rfl,rfl⟩
 ·rename_i a b
  exact ⟨by cases a;cases b;simp_all,rfl⟩
 ·exact ⟨rfl,rfl⟩
 ·exact ⟨rfl,rfl⟩
def nilSl:Value → Bool
 | .slice none 0 0=>true
 | _=>false
theorem nilSl_spec {v:Value} (h:nilSl v=true):v=.slice none 0 0:=by
 unfold nilSl at h
 split at h
 ·rfl
 ·cases h
def isFn (f:Nat):Value → Bool
 | .func (.func g) v1 v2=>decide (f=g) && decide (v1.size=0) && decide (v2.size=0)
 | _=>false
def okA:Operand → SArg → Bool
 | .tmp n,.t m=>decide (n=m)
 | .const v,.k u=>scEq v u
 | .const v,.nil _ _=>nilSl v
 | .func f,.f g=>decide (f=g)
 | .func f,.k u=>isFn f u
 | _,_=>false
def aggD:TypeDesc → Bool
 | .struct _=>true
 | .array _ _=>true
 | _=>false
def aggT (P:Program) (t:Nat):Option Bool:=(P.underlying t).map aggD
def szT (P:Program) (t:Nat):Option Nat:=(P.info? t).map (·.size)
def bsT (P:Program) (t:Nat):Option Nat:=(P.info? t).map (·.bytes)
def elemT (P:Program) (t:Nat):Option Nat:=match P.underlying t with
 | some (.slice e)=>some e
 | _=>none
def fldT (P:Program) (t i:Nat):Option (Nat × Nat):=match P.underlying t with
 | some (.struct fs)=>(fs[i]?).map fun f=>(f.offset,f.type)
 | _=>none
def zc:Value → Cell → Bool
 | v,.v u=>scEq v u
 | .slice none 0 0,.cap _ _ []=>true
 | _,_=>false
def zcs:List Value → List Cell → Bool
 | [],[]=>true
 | v :: vs,c :: cs=>zc v c && zcs vs cs
 | _,_=>false
def zeroOK (P:Program) (t:Nat) (zs:List Cell):Bool:=match P.info? t with
 | some i=>match i.zero with
  | some z=>zcs z.cells.toList zs
  | none=>false
 | none=>false
theorem zc_spec {g:Gh} {w:World} {v:Value} {c:Cell} (h:zc v c=true):RC g w c v:=by
 cases c with
 | v u=>cases v <;> simp only [zc] at h <;> (obtain ⟨e,h1⟩:=scEq_spec h;subst e;exact .v _ h1)
 | cap sz bs es=>
  unfold zc at h
  split at h
  ·rename_i e;cases e
  ·rename_i e;cases e
   refine ⟨?_,none,rfl⟩
   exact .sl sz bs [] none 0 (fun _ _=>undef) (Nat.le_refl _) (by simp [room]) (by simp) (by simp) (by simp)
  ·cases h
 | _=>cases v <;> simp [zc] at h
theorem zcs_spec {g:Gh} {w:World}:∀ {vs:List Value} {cs:List Cell},zcs vs cs=true → All2 (RC g w) cs vs
 | [],[],_=>trivial
 | v :: vs,c :: cs,h=>by simp [zcs] at h;exact ⟨zc_spec h.1,zcs_spec h.2⟩
 | [],_ :: _,h=>by simp [zcs] at h
 | _ :: _,[],h=>by simp [zcs] at h
theorem nil_spec (g:Gh) (w:World) (sz bs:Nat):RC g w (.cap sz bs []) (.slice none 0 0):=
 ⟨.sl sz bs [] none 0 (fun _ _=>undef) (Nat.le_refl _) (by simp [room]) (by simp) (by simp) (by simp),none,rfl⟩
theorem okA_spec {I:Init} {n:Nat} {σ:St} {g:Gh} {a:Act} {w:World} (hR:Rel I n σ g a w) {x:Operand} {y:SArg} (h:okA x y=true):RV g w (σ.ev y) (a.eval x):=by
 cases y with
 | t m=>
  cases x <;> simp [okA] at h
  subst h
  exact hR.slots _
 | k u=>
  cases x with
  | const v=>
   obtain ⟨e,h1⟩:=scEq_spec (x:=v) (y:=u) h
   subst e
   exact fun _=>.v _ h1
  | func f=>
   simp only [okA] at h
   unfold isFn at h
   split at h
   ·rename_i g' v1 v2
    simp at h
    obtain ⟨⟨rfl,h1⟩,h2⟩:=h
    subst h1;subst h2
    exact fun _=>.v _ rfl
   ·cases h
  | _=>simp [okA] at h
 | nil sz bs=>
  cases x with
  | const v=>
   rw [show a.eval (.const v)=v from rfl,nilSl_spec (v:=v) h]
   exact fun _=>nil_spec g w sz bs
  | _=>simp [okA] at h
 | f m=>
  cases x <;> simp [okA] at h
  subst h
  exact fun _=>⟨#[],#[],rfl,trivial,trivial⟩
theorem RV_un {g:Gh} {w:World} {x:AV} {v:Value} (h:RV g w x v) (hg:gok true x):RV2 g w (un x) v:=by
 cases x with
 | gd b x=>simp only [RV,hg rfl,if_true] at h;exact h
 | _=>exact h
theorem RV_of2 {g:Gh} {w:World} {x:AV} {v:Value} (h:RV2 g w x v):RV g w x v:=by
 cases x with
 | gd b x=>exact h.elim
 | _=>exact h
theorem cellsOf_spec {g:Gh} {w:World} {x:AV} {v:Value} {cs:List Cell} (h:RV2 g w x v) (hc:cellsOf x=some cs):All2 (RC g w) cs v.cells.toList:=by
 cases x with
 | c x=>
  have hx:x ≠ .junk:=by intro e;subst e;simp [cellsOf] at hc
  have hcs:cs=[x]:=by cases x <;> simp_all [cellsOf]
  subst hcs
  have h1:=h hx
  have ho:=RC.one h1
  have:v.cells=#[v]:=by cases v <;> first | rfl | simp [Value.oneCell'] at ho
  rw [this]
  exact ⟨h1,trivial⟩
 | agg l=>
  simp [cellsOf] at hc;subst hc
  obtain ⟨vs,rfl,hh⟩:=h
  exact hh
 | tup l=>simp [cellsOf] at hc
 | gd b x=>simp [cellsOf] at hc
theorem toD_spec {I:Init} {n:Nat} {σ:St} {g:Gh} {a:Act} {w:World} (hR:Rel I n σ g a w) {c:Cell} {v:Value} (h:RC g w c v):RC g w (toD σ c) v:=by
 cases c with
 | own k t=>
  simp only [toD]
  split
  ·rename_i ht
   split
   ·rename_i ty sz bs es e
    have:=(hR.obs k _ e).1
    rw [← (h.2.2 (by rw [hR.tags];exact ht)).1] at this
    exact this
   ·exact h
  ·exact h
 | cap sz bs es=>exact h.1
 | _=>exact h
theorem isD_spec {g:Gh} {w:World} {c:Cell} {v:Value} (h:RC g w c v) (hd:c.isD=true):RD g w c v:=by
 cases c with
 | v x=>exact h
 | sl sz bs es=>exact h
 | nsl sz bs es=>exact h
 | _=>simp [Cell.isD] at hd
theorem elems_spec {I:Init} {n:Nat} {σ:St} {g:Gh} {a:Act} {w:World} (hR:Rel I n σ g a w) {x:AV} {v:Value} {q:Nat × Nat × List (List Cell)} (h:RV2 g w x v) (he:elems σ x=some q) :
  RD g w (.sl q.1 q.2.1 q.2.2) v:=by
 cases x with
 | c x=>
  cases x with
  | sl sz bs es=>simp [elems] at he;subst he;exact h (by simp)
  | cap sz bs es=>simp [elems] at he;subst he;exact (h (by simp)).1
  | own k t=>
   simp only [elems] at he
   split at he
   ·rename_i ht
    split at he
    ·rename_i ty sz bs es e
     cases he
     have:=(hR.obs k _ e).1
     rw [← ((h (by simp)).2.2 (by rw [hR.tags];exact ht)).1] at this
     exact this
    ·cases he
   ·cases he
  | _=>simp [elems] at he
 | _=>simp [elems] at he
def Does (P:Program) (I:Init) (σ:St) (g:Gh) (a:Act) (w:World) (o:Oper) (e:Eff):Prop:=
 ∃ w' g' v,((execOp a.eval o).run P w=.ok (.value v) w' ∨ ((execOp a.eval o).run P w=.ok .skip w' ∧ v=undef)) ∧ Step I σ g w e.pur e.put g' w' ∧ RV2 g' w' e.val v
theorem does_quiet {P:Program} {I:Init} {n:Nat} {σ:St} {g:Gh} {a:Act} {w:World} {o:Oper} {e:Eff} (hR:Rel I n σ g a w) (hp:e.pur=[]) (hq:e.put=[]) {v:Value}
  (hr:(execOp a.eval o).run P w=.ok (.value v) w) (hv:RV2 g w e.val v):Does P I σ g a w o e:=
 ⟨w,g,v,.inl hr,by rw [hp,hq];exact Step.quiet hR.wok,hv⟩
end Go.Abs

namespace Go.Abs
variable {P:Program} {I:Init} {n:Nat} {σ:St} {g:Gh} {a:Act} {w:World} {o:Oper} {e:Eff} {key:Nat}
theorem opd (hR:Rel I n σ g a w) {x:Operand} {y:SArg} (h:okA x y=true) (hg:gok true (σ.ev y)):RV2 g w (un (σ.ev y)) (a.eval x):=RV_un (okA_spec hR h) hg
theorem RV2_v {x y:Value} (h:RV2 g w (.c (.v x)) y):y=x:=by
 have:=h (by simp)
 cases this;rfl
theorem RV2_mk {x:Value} (h:x.oneCell'=true):RV2 g w (.c (.v x)) x:=fun _=>.v x h
theorem s_mv (hR:Rel I n σ g a w) {x:Operand} {y:SArg} (ho:o.op=.move x ∨ o.op=.assign x) (hx:okA x y=true) (he:ev1 key σ.ev σ (.mv y)=some e) (hc:cond true σ.ev σ (.mv y)):Does P I σ g a w o e:=by
 simp only [ev1,Option.some.injEq] at he
 subst he
 refine does_quiet hR rfl rfl (v:=a.eval x) ?_ (opd hR hx hc)
 rcases ho with ho | ho <;> simp [execOp,ho]
theorem pickv_spec {t:Bool} {x y:AV} {u v:Value} (h1:t=true → RV2 g w x u) (h2:t=false → RV2 g w y v):RV2 g w (pickv t x y) (if t then u else v):=by
 have gen:RV2 g w (if t then x else y) (if t then u else v):=by
  cases t
  ·simpa using h2 rfl
  ·simpa using h1 rfl
 unfold pickv
 split
 ·rename_i p q
  cases t
  ·have:=RV2_v (h2 rfl);subst this;exact RV2_mk rfl
  ·have:=RV2_v (h1 rfl);subst this;exact RV2_mk rfl
 ·exact gen
theorem s_pick (hR:Rel I n σ g a w) {x1 x2 x3:Operand} {y1 y2 y3:SArg} (ho:o.op=.pick x1 x2 x3) (h1:okA x1 y1=true) (h2:okA x2 y2=true) (h3:okA x3 y3=true)
  (he:ev1 key σ.ev σ (.pick y1 y2 y3)=some e) (hc:cond true σ.ev σ (.pick y1 y2 y3)):Does P I σ g a w o e:=by
 have v1:=opd hR h1 hc.1
 have hc2:=hc.2
 simp only [ev1] at he
 split at he
 ·rename_i t et
  simp only [Option.some.injEq] at he
  subst he
  rw [et] at v1
  have e1:=RV2_v v1
  simp only [et,Bool.true_and] at hc2
  refine does_quiet hR rfl rfl (v:=if t then a.eval x2 else a.eval x3) ?_ (pickv_spec (fun ht=>?_) (fun ht=>?_))
  ·simp [execOp,ho,e1,asBool]
  ·subst ht;exact opd hR h2 (by simpa using hc2.1)
  ·subst ht;exact opd hR h3 (by simpa using hc2.2)
 ·cases he
theorem s_nilc (hR:Rel I n σ g a w) {x:Operand} {y:SArg} (ho:o.op=.nilCheck x) (hx:okA x y=true) (he:ev1 key σ.ev σ (.nilc y)=some e) (hc:cond true σ.ev σ (.nilc y)):Does P I σ g a w o e:=by
 have v1:=opd hR hx hc
 simp only [ev1] at he
 split at he
 ·rename_i k t off et
  split at he
  ·rename_i ht
   simp only [Option.some.injEq] at he
   subst he
   rw [et] at v1
   have e1:=(v1 (by simp)).2.2 (by rw [hR.tags];exact ht)
   simp only [ptr] at e1
   exact does_quiet hR rfl rfl (v:=a.eval x) (by simp [execOp,ho,e1]) v1
  ·cases he
 ·rename_i cs j et
  simp only [Option.some.injEq] at he
  subst he
  rw [et] at v1
  obtain ⟨ad,e1,_⟩:=v1 (by simp)
  exact does_quiet hR rfl rfl (v:=a.eval x) (by simp [execOp,ho,e1]) v1
 ·cases he
theorem s_not (hR:Rel I n σ g a w) {x:Operand} {y:SArg} {t:TypeId} (ho:o.op=.unOp .not t x) (hx:okA x y=true) (he:ev1 key σ.ev σ (.not y)=some e) (hc:cond true σ.ev σ (.not y)):Does P I σ g a w o e:=by
 have v1:=opd hR hx hc
 simp only [ev1] at he
 split at he
 ·rename_i b et
  simp only [Option.some.injEq] at he
  subst he
  rw [et] at v1
  have e1:=RV2_v v1
  exact does_quiet hR rfl rfl (v:=.bool (!b)) (by simp [execOp,ho,e1,Op.unary]) (RV2_mk rfl)
 ·cases he
theorem s_neg (hR:Rel I n σ g a w) {x:Operand} {y:SArg} {t:TypeId} (ho:o.op=.unOp .neg t x) (hx:okA x y=true) (he:ev1 key σ.ev σ (.neg y)=some e) (hc:cond true σ.ev σ (.neg y)):Does P I σ g a w o e:=by
 have v1:=opd hR hx hc
 simp only [ev1] at he
 split at he
 ·rename_i k m et
  simp only [Option.some.injEq] at he
  subst he
  rw [et] at v1
  have e1:=RV2_v v1
  exact does_quiet hR rfl rfl (v:=.int k (k.wrap (0 - m))) (by simp [execOp,ho,e1,Op.unary,Op.intArith]) (RV2_mk rfl)
 ·cases he
theorem s_conv (hR:Rel I n σ g a w) {x:Operand} {y:SArg} {t u t' u':TypeId} {k:IntKind} (ho:o.op=.convert t u x) (hx:okA x y=true) (ht:(P.underlying t).isSome=true) (hu:P.underlying u=some (.int k))
  (he:ev1 key σ.ev σ (.conv t' u' k y)=some e) (hc:cond true σ.ev σ (.conv t' u' k y)):Does P I σ g a w o e:=by
 have v1:=opd hR hx hc
 obtain ⟨d,hd⟩:=Option.isSome_iff_exists.1 ht
 simp only [ev1] at he
 split at he
 ·rename_i k' m et
  simp only [Option.some.injEq] at he
  subst he
  rw [et] at v1
  have e1:=RV2_v v1
  refine does_quiet hR rfl rfl (v:=.int k (k.wrap m)) ?_ (RV2_mk rfl)
  have:(convert t u (.int k' m)).run P w=.ok (.int k (k.wrap m)) w:=by
   cases d <;> simp [convert,run_underlying hd,run_underlying hu,Conv.intToInt]
  simp [execOp,ho,e1,this]
 ·cases he
theorem binV_spec {op:BinOp} {t:TypeId} {x y v:Value} (h:binV op x y=some v) (hq:(op=.quo ∨ op=.rem) → ∀ k b,y=.int k b → b ≠ 0):(binOp op t x y).run P w=.ok v w ∧ v.oneCell'=true:=by
 unfold binV at h
 split at h
 ·rename_i k p k' q
  split at h
  ·rename_i hk
   subst hk
   cases op <;> simp at h <;> subst h <;> first
    | (refine ⟨?_,rfl⟩;simp [binOp,Op.intArith];done)
    | (refine ⟨?_,rfl⟩;simp [binOp,Op.intCmp];done)
    | (refine ⟨?_,rfl⟩;have:=hq (by simp) _ _ rfl;simp [binOp,Op.intDiv,this];done)
  ·cases h
 ·cases h
theorem eqGuard_int {op:BinOp} {t:TypeId} {x y:Operand} {k k':IntKind} {p q:Int}:(eqGuard op t x y (.int k p) (.int k' q)).run P w=.ok () w:=by
 cases op <;> simp [eqGuard]
theorem eqGuard_bool {op:BinOp} {t:TypeId} {x y:Operand} {p q:Bool}:(eqGuard op t x y (.bool p) (.bool q)).run P w=.ok () w:=by
 cases op <;> simp [eqGuard]
theorem s_bin (hR:Rel I n σ g a w) {op:BinOp} {t u:TypeId} {x1 x2:Operand} {y1 y2:SArg} (ho:o.op=.binOp op t x1 x2 u) (h1:okA x1 y1=true) (h2:okA x2 y2=true)
  (he:ev1 key σ.ev σ (.bin op y1 y2)=some e) (hc:cond true σ.ev σ (.bin op y1 y2)):Does P I σ g a w o e:=by
 have v1:=opd hR h1 hc.1
 have v2:=opd hR h2 hc.2.1
 have hc3:=hc.2.2
 simp only [ev1] at he
 split at he
 ·rename_i p q e1 e2
  split at he
  ·rename_i v ev
   simp only [Option.some.injEq] at he
   subst he
   rw [e1] at v1
   rw [e2] at v2
   have f1:=RV2_v v1
   have f2:=RV2_v v2
   have hs:=binV_spec (P:=P) (w:=w) (t:=t) ev (fun hop k b hb=>by
    subst hb
    rcases hop with rfl | rfl
    ·simpa [e2] using hc3
    ·simpa [e2] using hc3)
   refine does_quiet hR rfl rfl (v:=v) ?_ (RV2_mk hs.2)
   have hg:∃ k p' k' q',p=.int k p' ∧ q=.int k' q':=by
    unfold binV at ev
    split at ev
    ·exact ⟨_,_,_,_,rfl,rfl⟩
    ·cases ev
   obtain ⟨k,p',k',q',rfl,rfl⟩:=hg
   simp [execOp,ho,f1,f2,eqGuard_int,hs.1]
  ·cases he
 ·cases he
theorem s_beq (hR:Rel I n σ g a w) {neg:Bool} {t u:TypeId} {x1 x2:Operand} {y1 y2:SArg} (ho:o.op=.binOp (if neg then .neq else .eql) t x1 x2 u) (ht:P.underlying t=some .bool) (h1:okA x1 y1=true) (h2:okA x2 y2=true)
  (he:ev1 key σ.ev σ (.beq neg t y1 y2)=some e) (hc:cond true σ.ev σ (.beq neg t y1 y2)):Does P I σ g a w o e:=by
 have v1:=opd hR h1 hc.1
 have v2:=opd hR h2 hc.2
 simp only [ev1] at he
 split at he
 ·rename_i p q e1 e2
  simp only [Option.some.injEq] at he
  subst he
  rw [e1] at v1
  rw [e2] at v2
  have f1:=RV2_v v1
  have f2:=RV2_v v2
  refine does_quiet hR rfl rfl (v:=.bool (if neg then p != q else p == q)) ?_ (RV2_mk rfl)
  have heq:(Op.equal t (.bool p) (.bool q)).run P w=.ok (p == q) w:=by
   show (Op.equalIn (9999 + 1) t (.bool p) (.bool q)).run P w=_
   unfold Op.equalIn
   simp [run_underlying ht]
  cases neg
  ·simp [execOp,ho,f1,f2,eqGuard_bool,binOp,heq]
  ·simp [execOp,ho,f1,f2,eqGuard_bool,binOp,heq]
   cases p <;> cases q <;> rfl
 ·cases he
def isArr2 (P:Program) (t:Nat):Bool:=match P.underlying t with
 | some (.array 2 e)=>P.plainKey e && (match P.underlying e with | some (.int _)=>true | _=>false) && (P.info? e).isSome && decide (P.cellsOf e=1) && !P.eqGuardType P.depth t
 | _=>false
theorem isArr2_spec {t:Nat} (h:isArr2 P t=true):∃ e i k,P.underlying t=some (.array 2 e) ∧ P.plainKey e=true ∧ P.underlying e=some (.int k) ∧ P.info? e=some i ∧ P.cellsOf e=1 ∧ P.eqGuardType P.depth t=false:=by
 unfold isArr2 at h
 split at h
 ·rename_i e he
  simp only [Bool.and_eq_true,decide_eq_true_eq,Bool.not_eq_true'] at h
  obtain ⟨⟨⟨⟨h1,h2⟩,h3⟩,h4⟩,h5⟩:=h
  obtain ⟨i,hi⟩:=Option.isSome_iff_exists.1 h3
  split at h2
  ·rename_i k hk
   exact ⟨e,i,k,he,h1,hk,hi,h4,h5⟩
  ·cases h2
 ·cases h
theorem run_int_eq {d:Nat} {e:TypeId} {k k':IntKind} (hu:P.underlying e=some (.int k)) (x y:Int):(Op.equalIn (d + 1) e (.int k' x) (.int k' y)).run P w=.ok (x == y) w:=by
 unfold Op.equalIn
 simp [run_underlying hu]
theorem RV2_two {x y v:Value} (h:RV2 g w (.agg [.v x,.v y]) v):v=.agg #[x,y]:=by
 obtain ⟨vs,rfl,hvs⟩:=h
 obtain ⟨l⟩:=vs
 match l,hvs with
 | [a,b],⟨h1,h2,_⟩=>
  cases h1;cases h2;rfl
theorem s_aeq (hR:Rel I n σ g a w) {neg:Bool} {t u:TypeId} {x1 x2:Operand} {y1 y2:SArg} (ho:o.op=.binOp (if neg then .neq else .eql) t x1 x2 u) (ht:isArr2 P t=true) (h1:okA x1 y1=true) (h2:okA x2 y2=true)
  (he:ev1 key σ.ev σ (.aeq neg t y1 y2)=some e) (hc:cond true σ.ev σ (.aeq neg t y1 y2)):Does P I σ g a w o e:=by
 have v1:=opd hR h1 hc.1
 have v2:=opd hR h2 hc.2
 obtain ⟨el,i,kk,q1,q2,q3,q4,q5,q6⟩:=isArr2_spec ht
 simp only [ev1] at he
 split at he
 ·rename_i k p k1 q k2 r k3 s e1 e2
  split at he
  ·rename_i hk
   obtain ⟨rfl,rfl⟩:=hk
   simp only [Option.some.injEq] at he
   subst he
   rw [e1] at v1
   rw [e2] at v2
   have f1:=RV2_two v1
   have f2:=RV2_two v2
   refine does_quiet hR rfl rfl (v:=.bool (if neg then !(p == r && q == s) else (p == r && q == s))) ?_ (RV2_mk rfl)
   have heq:(Op.equal t (.agg #[.int k p,.int k1 q]) (.agg #[.int k r,.int k1 s])).run P w=.ok (p == r && q == s) w:=by
    show (Op.equalIn (9999 + 1) t _ _).run P w=_
    rw [run_equalIn_array w 9999 _ _ q1 q4,q5]
    have hp:=fun (xs:Array Value) (off:Nat) (v:Value) (hx:xs[off]? = some v)=>run_part_plain (P:=P) (w:=w) q2 hx
    have i1:=run_int_eq (P:=P) (w:=w) (d:=9998) (k':=k) q3 p r
    have i2:=run_int_eq (P:=P) (w:=w) (d:=9998) (k':=k1) q3 q s
    simp only [show List.range 2=[0,1] from rfl,Op.eqItems,Sem.run_bind]
    rw [hp #[.int k p,.int k1 q] (0 * 1) (.int k p) rfl]
    simp only [Result.andThen_ok,Sem.run_bind]
    rw [hp #[.int k r,.int k1 s] (0 * 1) (.int k r) rfl]
    simp only [Result.andThen_ok,Sem.run_bind]
    rw [i1]
    simp only [Result.andThen_ok]
    cases hpr:(p == r) with
    | false=>simp
    | true=>
     simp only [Bool.not_true,Bool.false_eq_true,if_false,Sem.run_bind]
     rw [hp #[.int k p,.int k1 q] (1 * 1) (.int k1 q) rfl]
     simp only [Result.andThen_ok,Sem.run_bind]
     rw [hp #[.int k r,.int k1 s] (1 * 1) (.int k1 s) rfl]
     simp only [Result.andThen_ok,Sem.run_bind]
     rw [i2]
     simp only [Result.andThen_ok]
     cases hqs:(q == s) <;> simp
   have hg:∀ op,(eqGuard op t x1 x2 (.agg #[.int k p,.int k1 q]) (.agg #[.int k r,.int k1 s])).run P w=.ok () w:=fun op=>by
    cases op <;> simp [eqGuard,q6]
   cases neg
   ·simp [execOp,ho,f1,f2,hg,binOp,heq]
   ·simp [execOp,ho,f1,f2,hg,binOp,heq]
  ·cases he
 ·cases he
end Go.Abs

namespace Go.Abs
variable {P:Program} {I:Init} {n:Nat} {σ:St} {g:Gh} {a:Act} {w:World} {o:Oper} {e:Eff} {key:Nat}
theorem refKeys_spec (hR:Rel I n σ g a w):∀ {xs:List Operand} {ys:List SArg} {ks:List (Nat × Nat)},All2 (fun x y=>okA x y=true) xs ys → (∀ y,y ∈ ys → gok true (σ.ev y)) → refKeys (ys.map σ.ev)=some ks →
  All2 (IsRef g) ks (xs.map a.eval)
 | [],[],ks,_,_,h=>by simp [refKeys] at h;subst h;trivial
 | x :: xs,y :: ys,ks,h,hg,hk=>by
  simp only [List.map_cons,refKeys] at hk
  split at hk
  ·rename_i k l e1 e2
   cases hk
   have v1:=opd hR h.1 (hg y (by simp))
   refine ⟨?_,refKeys_spec hR h.2 (fun y hy=>hg y (by simp [hy])) e2⟩
   unfold refKey at e1
   split at e1
   ·rename_i k' t' eu
    cases e1
    rw [eu] at v1
    exact v1 (by simp)
   ·cases e1
  ·cases hk
 | [],_ :: _,_,h,_,_=>h.elim
 | _ :: _,[],_,h,_,_=>h.elim
theorem s_mkfn (hR:Rel I n σ g a w) {f:Nat} {xs1 xs2:Array Operand} {ys1 ys2:List SArg} (ho:o.op=.makeFunc (.func f) xs1 xs2) (h1:All2 (fun x y=>okA x y=true) xs1.toList ys1) (h2:All2 (fun x y=>okA x y=true) xs2.toList ys2)
  (he:ev1 key σ.ev σ (.mkfn f ys1 ys2)=some e) (hc:cond true σ.ev σ (.mkfn f ys1 ys2)):Does P I σ g a w o e:=by
 simp only [ev1] at he
 split at he
 ·rename_i k1 k2 e1 e2
  cases he
  have f1:=refKeys_spec hR h1 hc.1 e1
  have f2:=refKeys_spec hR h2 hc.2 e2
  exact does_quiet hR rfl rfl (v:=.func (.func f) (xs1.map a.eval) (xs2.map a.eval)) (by simp [execOp,ho,Instr.makeFunc]) (fun _=>⟨_,_,rfl,by simpa using f1,by simpa using f2⟩)
 ·cases he
theorem s_ext (hR:Rel I n σ g a w) {x:Operand} {y:SArg} {i:Nat} (ho:o.op=.extract x i) (hx:okA x y=true) (he:ev1 key σ.ev σ (.ext y i)=some e) (hc:cond true σ.ev σ (.ext y i)):Does P I σ g a w o e:=by
 have v1:=opd hR hx hc
 simp only [ev1] at he
 split at he
 ·rename_i l et
  split at he
  ·rename_i z ez
   cases he
   rw [et] at v1
   obtain ⟨vs,e1,h⟩:=v1
   obtain ⟨v,e2,hv⟩:=h.get i z ez
   refine does_quiet hR rfl rfl (v:=v) ?_ ?_
   ·have:vs[i]? = some v:=by simpa using e2
    simp [execOp,ho,e1,Instr.extract,this]
   ·cases z with
    | c x=>exact hv
    | agg cs=>exact hv
    | tup l=>exact hv.elim
    | gd b x=>exact hv.elim
  ·cases he
 ·cases he
theorem fldT_spec {t i off u:Nat} (h:fldT P t i=some (off,u)):∃ fs f,P.underlying t=some (.struct fs) ∧ fs[i]? = some f ∧ f.offset=off ∧ f.type=u:=by
 unfold fldT at h
 split at h
 ·rename_i fs e
  obtain ⟨f,h1,h2⟩:=Option.map_eq_some_iff.1 h
  cases h2
  exact ⟨fs,f,e,h1,rfl,rfl⟩
 ·cases h
theorem run_sz {t m:Nat} (h:szT P t=some m) (w:World):(sizeOf t).run P w=.ok m w:=by
 unfold szT at h
 obtain ⟨i,h1,h2⟩:=Option.map_eq_some_iff.1 h
 simp [sizeOf,typeInfo,h1,h2]
theorem run_agg {t:Nat} {b:Bool} (h:aggT P t=some b) (w:World):(isAgg t).run P w=.ok b w:=by
 unfold aggT at h
 obtain ⟨d,h1,h2⟩:=Option.map_eq_some_iff.1 h
 cases d <;> simp [aggD] at h2 <;> subst h2 <;> simp [isAgg,run_underlying h1]
theorem s_fad (hR:Rel I n σ g a w) {x:Operand} {y:SArg} {t t' i off u m:Nat} (ho:o.op=.fieldAddr t x i) (hx:okA x y=true) (hf:fldT P t i=some (off,u)) (hu:szT P u=some m) (hm:m ≠ 0)
  (he:ev1 key σ.ev σ (.fad t' i off y)=some e) (hc:cond true σ.ev σ (.fad t' i off y)):Does P I σ g a w o e:=by
 have v1:=opd hR hx hc
 obtain ⟨fs,f,h1,h2,rfl,rfl⟩:=fldT_spec hf
 have run:∀ ad:Addr,(Instr.fieldAt t (.pointer (some ad)) i).run P w=.ok (.pointer (some (ad.add f.offset))) w:=fun ad=>by
  simp [Instr.fieldAt,run_underlying h1,h2,Instr.sureAddr,fieldPlace,run_sz hu,hm]
 simp only [ev1] at he
 split at he
 ·rename_i k t1 q et
  split at he
  ·rename_i htg
   cases he
   rw [et] at v1
   obtain ⟨r0,r1,r2⟩:=v1 (by simp)
   have e1:=r2 (by rw [hR.tags];exact htg)
   simp only [ptr] at e1
   refine does_quiet hR rfl rfl (v:=ptr g k (q + f.offset)) ?_ (fun _=>⟨rfl,r1,fun _=>rfl⟩)
   have:(⟨g.blk k,q,none⟩:Addr).add f.offset=⟨g.blk k,q + f.offset,none⟩:=by unfold Addr.add;split <;> simp_all
   simp [execOp,ho,e1,run,this,ptr]
  ·cases he
 ·rename_i cs j et
  cases he
  rw [et] at v1
  obtain ⟨ad,e1,h⟩:=v1 (by simp)
  refine does_quiet hR rfl rfl (v:=.pointer (some (ad.add f.offset))) ?_ (fun _=>⟨_,rfl,fun q d hd=>?_⟩)
  ·simp [execOp,ho,e1,run]
  ·obtain ⟨z,z1,z2⟩:=h (f.offset + q) d (by rw [← Nat.add_assoc];exact hd)
   refine ⟨z,?_,z2⟩
   have:(ad.add f.offset).add q=ad.add (f.offset + q):=by
    unfold Addr.add
    by_cases h1:f.offset=0 <;> by_cases h2:q=0 <;> simp [h1,h2]
    omega
   rw [this];exact z1
 ·rename_i k t1 sz p q et
  split at he
  ·rename_i htg
   cases he
   rw [et] at v1
   obtain ⟨r0,r1,r2⟩:=v1 (by simp)
   have e1:=r2 (by rw [hR.tags];exact htg)
   simp only [ptr] at e1
   refine does_quiet hR rfl rfl (v:=ptr g k (p * sz + (q + f.offset))) ?_ (fun _=>⟨rfl,r1,fun _=>rfl⟩)
   have:(⟨g.blk k,p * sz + q,none⟩:Addr).add f.offset=⟨g.blk k,p * sz + (q + f.offset),none⟩:=by unfold Addr.add;split <;> simp_all [Nat.add_assoc]
   simp [execOp,ho,e1,run,this,ptr]
  ·cases he
 ·cases he
theorem s_fld1 (hR:Rel I n σ g a w) {x:Operand} {y:SArg} {t t' i off u:Nat} (ho:o.op=.field t x i) (hx:okA x y=true) (hf:fldT P t i=some (off,u)) (hu:aggT P u=some false)
  (he:ev1 key σ.ev σ (.fld1 t' i off y)=some e) (hc:cond true σ.ev σ (.fld1 t' i off y)):Does P I σ g a w o e:=by
 have v1:=opd hR hx hc
 obtain ⟨fs,f,h1,h2,rfl,rfl⟩:=fldT_spec hf
 simp only [ev1] at he
 split at he
 ·rename_i cs et
  split at he
  ·rename_i c ec
   cases he
   rw [et] at v1
   obtain ⟨vs,e1,h⟩:=v1
   obtain ⟨v,e2,hv⟩:=h.get _ _ ec
   have e2:vs[f.offset]? = some v:=by simpa using e2
   refine does_quiet hR rfl rfl (v:=v) ?_ (fun _=>hv)
   simp [execOp,ho,e1,Instr.field,run_underlying h1,h2,part,run_agg hu,asAgg,e2]
  ·cases he
 ·cases he
theorem s_fldn (hR:Rel I n σ g a w) {x:Operand} {y:SArg} {t t' i off u m:Nat} (ho:o.op=.field t x i) (hx:okA x y=true) (hf:fldT P t i=some (off,u)) (hu:aggT P u=some true) (hm:szT P u=some m)
  (he:ev1 key σ.ev σ (.fldn t' i off m y)=some e) (hc:cond true σ.ev σ (.fldn t' i off m y)):Does P I σ g a w o e:=by
 have v1:=opd hR hx hc
 obtain ⟨fs,f,h1,h2,rfl,rfl⟩:=fldT_spec hf
 simp only [ev1] at he
 split at he
 ·rename_i cs et
  split at he
  ·rename_i hle
   cases he
   rw [et] at v1
   obtain ⟨vs,e1,h⟩:=v1
   refine does_quiet hR rfl rfl (v:=.agg (vs.extract f.offset (f.offset + m))) ?_ ⟨_,rfl,?_⟩
   ·simp [execOp,ho,e1,Instr.field,run_underlying h1,h2,part,run_agg hu,asAgg,run_sz hm]
   ·have:=(h.drop f.offset).take m
    simpa [List.extract_eq_take_drop,Nat.add_sub_cancel_left] using this
  ·cases he
 ·cases he
theorem bestL_spec (hR:Rel I n σ g a w) (mx:Bool) (k:IntKind):∀ {xs:List Operand} {ys:List SArg} {p m:Int},All2 (fun x y=>okA x y=true) xs ys → (∀ y,y ∈ ys → gok true (σ.ev y)) → bestL mx k p (ys.map σ.ev)=some m →
  (List.foldlM (if mx then Builtin.max2 else Builtin.min2) (Value.int k p) (xs.map a.eval)).run P w=.ok (.int k m) w
 | [],[],p,m,_,_,h=>by simp [bestL] at h;subst h;rfl
 | x :: xs,y :: ys,p,m,h,hg,hk=>by
  simp only [List.map_cons,bestL] at hk
  split at hk
  ·rename_i k' b eu
   split at hk
   ·rename_i hkk
    subst hkk
    have v1:=opd hR h.1 (hg y (by simp))
    rw [eu] at v1
    have e1:=RV2_v v1
    have ih:=bestL_spec hR mx k h.2 (fun y hy=>hg y (by simp [hy])) hk
    simp only [List.map_cons,List.foldlM_cons,Sem.run_bind,e1]
    have:((if mx then Builtin.max2 else Builtin.min2) (Value.int k p) (.int k b)).run P w=.ok (.int k (best2 mx p b)) w:=by
     cases mx <;> simp [Builtin.max2,Builtin.min2,best2]
    rw [this]
    exact ih
   ·cases hk
  ·cases hk
 | [],_ :: _,_,_,h,_,_=>h.elim
 | _ :: _,[],_,_,h,_,_=>h.elim
theorem s_best (hR:Rel I n σ g a w) {mx:Bool} {xs:Array Operand} {ts:Array TypeId} {ys:List SArg} (ho:o.op=.call { callee:=.builtin (if mx then .max else .min),args:=xs,argTypes:=ts })
  (h1:All2 (fun x y=>okA x y=true) xs.toList ys) (he:ev1 key σ.ev σ (.best mx ys)=some e) (hc:cond true σ.ev σ (.best mx ys)):Does P I σ g a w o e:=by
 simp only [ev1] at he
 obtain ⟨xs⟩:=xs
 simp only at h1
 cases ys with
 | nil=>simp at he
 | cons y ys=>
  cases xs with
  | nil=>exact h1.elim
  | cons x xs=>
   simp only [List.map_cons] at he
   split at he
   ·rename_i k p eu
    split at he
    ·rename_i m em
     cases he
     have v1:=opd hR h1.1 (hc y (by simp))
     rw [eu] at v1
     have e1:=RV2_v v1
     have hb:=bestL_spec (P:=P) hR mx k h1.2 (fun z hz=>hc z (by simp [hz])) em
     refine does_quiet hR rfl rfl (v:=.int k m) ?_ (RV2_mk rfl)
     cases mx
     ·simp [execOp,ho,resolve,invoke,builtin,Builtin.min_,e1] at hb ⊢
      rw [hb];rfl
     ·simp [execOp,ho,resolve,invoke,builtin,Builtin.max_,e1] at hb ⊢
      rw [hb];rfl
    ·cases he
   ·cases he
theorem elemT_spec {t e:Nat} (h:elemT P t=some e):P.underlying t=some (.slice e):=by
 unfold elemT at h
 split at h
 ·rename_i e' h';cases h;exact h'
 ·cases h
theorem RD_len {sz bs:Nat} {es:List (List Cell)} {v:Value} (h:RD g w (.sl sz bs es) v):∃ q c,v=.slice q es.length c ∧ es.length ≤ c ∧ es.length * bs ≤ room:=by
 cases h with
 | sl _ _ _ q c _ hc hb=>exact ⟨q,c,rfl,hc,hb⟩
theorem s_len (hR:Rel I n σ g a w) {x:Operand} {y:SArg} {t t' q:Nat} (ho:o.op=.call { callee:=.builtin .len,args:=#[x],argTypes:=#[t] }) (ht:elemT P t=some q) (hx:okA x y=true)
  (he:ev1 key σ.ev σ (.len t' y)=some e) (hc:cond true σ.ev σ (.len t' y)):Does P I σ g a w o e:=by
 have v1:=opd hR hx hc
 have run:∀ q m c,a.eval x=.slice q m c → (execOp a.eval o).run P w=.ok (.value (.int .i64 m)) w:=fun q m c hh=>by
  simp [execOp,ho,resolve,invoke,builtin,Builtin.len_,hh,run_underlying (elemT_spec ht),goInt]
 simp only [ev1] at he
 split at he
 ·rename_i k t1 et
  rw [et] at v1
  split at he
  ·rename_i htg
   have e1:=(v1 (by simp)).2.2 (by rw [hR.tags];exact htg)
   split at he
   ·rename_i eo
    cases he
    obtain ⟨arr,c,hr,_⟩:=hR.obs k _ eo
    exact does_quiet hR rfl rfl (run _ _ _ (e1.1.trans hr)) (RV2_mk rfl)
   ·rename_i eo
    cases he
    obtain ⟨q,c,hr,_⟩:=RD_len (hR.obs k _ eo).1
    exact does_quiet hR rfl rfl (run _ _ _ (e1.1.trans hr)) (RV2_mk rfl)
   ·rename_i eo
    cases he
    obtain ⟨f,hf⟩:=hR.obs k _ eo
    obtain ⟨q,c,hr,_⟩:=RD_len hf.1
    exact does_quiet hR rfl rfl (run _ _ _ (e1.1.trans hr)) (RV2_mk rfl)
   ·cases he
  ·cases he
 ·rename_i et
  cases he
  rw [et] at v1
  obtain ⟨q,c,hr,_⟩:=RD_len (v1 (by simp))
  exact does_quiet hR rfl rfl (run _ _ _ hr) (RV2_mk rfl)
 ·rename_i et
  cases he
  rw [et] at v1
  obtain ⟨q,c,hr,_⟩:=RD_len (v1 (by simp)).1
  exact does_quiet hR rfl rfl (run _ _ _ hr) (RV2_mk rfl)
 ·cases he
end Go.Abs

namespace Go.Abs
variable {P:Program} {I:Init} {n:Nat} {σ:St} {g:Gh} {a:Act} {w:World} {o:Oper} {e:Eff} {key:Nat}
theorem list_choose {α:Type} {p:Nat → α → Prop}:∀ m:Nat,(∀ i,i < m → ∃ x,p i x) → ∃ l:List α,l.length=m ∧ ∀ i x,l[i]? = some x → p i x
 | 0,_=>⟨[],rfl,by simp⟩
 | m + 1,h=>by
  obtain ⟨l,h1,h2⟩:=list_choose m fun i hi=>h i (by omega)
  obtain ⟨x,hx⟩:=h m (by omega)
  refine ⟨l ++ [x],by simp [h1],fun i y hy=>?_⟩
  by_cases hi:i < l.length
  ·rw [List.getElem?_append_left hi] at hy;exact h2 i y hy
  ·rw [List.getElem?_append_right (by omega)] at hy
   have:i - l.length=0:=by
    rcases Nat.eq_zero_or_pos (i - l.length) with h0 | h0
    ·exact h0
    ·rw [List.getElem?_eq_none (by simp;omega)] at hy;cases hy
   rw [this] at hy
   simp at hy
   subst hy
   have:i=m:=by omega
   subst this
   exact hx
theorem RD.rc {c:Cell} {v:Value} (h:RD g w c v):RC g w c v:=by
 cases c <;> first
  | exact h
  | cases h
theorem add_blk (b q j:Nat):(⟨b,q,none⟩:Addr).add j=⟨b,q + j,none⟩:=by unfold Addr.add;split <;> simp_all
theorem cell_blk {b ty:Nat} {vs:Array Value} {fr:Nat × Nat} (h:w.heap[b]? = some (.cells vs ty fr)) (q:Nat):w.cell? ⟨b,q,none⟩=vs[q]?:=by
 simp [World.cell?,h]
theorem run_load1 {t:TypeId} {ad:Addr} {v:Value} (ht:aggT P t=some false) (h:w.cell? ad=some v):(Instr.loadAt t (.pointer (some ad))).run P w=.ok v w:=by
 simp [Instr.loadAt,Instr.sureAddr,loadVar,run_agg ht,h]
theorem run_loadn {t m:TypeId} {ad:Addr} {vs:List Value} (ht:aggT P t=some true) (hm:szT P t=some m) (hl:vs.length=m) (h:∀ j v,vs[j]? = some v → w.cell? (ad.add j)=some v) :
  (Instr.loadAt t (.pointer (some ad))).run P w=.ok (.agg vs.toArray) w:=by
 have:=run_loadCells_list (P:=P) w ad vs h
 simp [Instr.loadAt,Instr.sureAddr,loadVar,run_agg ht,run_sz hm,← hl,this]
theorem agg_take {vs:List Value} {cs:List Cell} {j m:Nat} (h:All2 (RC g w) cs vs):RV2 g w (.agg ((cs.drop j).take m)) (.agg ((vs.drop j).take m).toArray):=
 ⟨_,rfl,by simpa using (h.drop j).take m⟩
theorem loadAt_spec (hR:Rel I n σ g a w) {one:Bool} {m t:Nat} {x:AV} {y:Value} (hy:RV2 g w x y) (h:loadAt σ one m x=some e) (ht:aggT P t=some (!one)) (hm:one=false → szT P t=some m) :
  e.pur=[] ∧ e.put=[] ∧ ∃ v,(Instr.loadAt t y).run P w=.ok v w ∧ RV2 g w e.val v:=by
 unfold loadAt at h
 split at h
 ·rename_i k t1 off
  split at h
  case isFalse=>cases h
  rename_i htg
  have e1:=(hy (by simp)).2.2 (by rw [hR.tags];exact htg)
  simp only [ptr] at e1
  subst e1
  split at h
  ·rename_i ty cs eo
   obtain ⟨vs,h1,h2,h3⟩:=hR.obs k _ eo
   split at h
   ·rename_i hone
    split at h
    ·rename_i c ec
     cases h
     obtain ⟨v,ev,hv⟩:=h2.get _ _ ec
     refine ⟨rfl,rfl,v,run_load1 (by rw [ht,hone];rfl) ?_,fun _=>hv⟩
     rw [cell_blk h1];simpa using ev
    ·cases h
   ·rename_i hone
    split at h
    ·rename_i hle
     cases h
     have hone:one=false:=by simpa using hone
     refine ⟨rfl,rfl,_,run_loadn (vs:=(vs.toList.drop off).take m) (by rw [ht,hone];rfl) (hm hone) ?_ ?_,agg_take h2⟩
     ·have:=h2.length;simp at this ⊢;omega
     ·intro j v hv
      rw [add_blk,cell_blk h1]
      rw [List.getElem?_take] at hv
      split at hv
      ·rw [List.getElem?_drop] at hv;simpa using hv
      ·cases hv
    ·cases h
  ·cases h
 ·rename_i cs j
  obtain ⟨ad,rfl,hh⟩:=hy (by simp)
  split at h
  ·rename_i hone
   split at h
   ·rename_i c ec
    cases h
    obtain ⟨v,hl,hv⟩:=hh 0 c (by simpa using ec)
    refine ⟨rfl,rfl,v,run_load1 (by rw [ht,hone];rfl) ?_,fun _=>?_⟩
    ·have:=hl.2;simpa [Addr.add] using this
    ·exact hv.rc
   ·cases h
  ·rename_i hone
   split at h
   ·rename_i hle
    cases h
    have hone:one=false:=by simpa using hone
    obtain ⟨vs,hl,hv⟩:=list_choose (p:=fun i x=>Lies g w (ad.add i) x ∧ ∀ d,cs[j + i]? = some d → RD g w d x) m fun i hi=>by
     obtain ⟨x,h1,h2⟩:=hh i (cs[j + i]'(by omega)) (by simp [show j + i < cs.length by omega])
     refine ⟨x,h1,fun d hd=>?_⟩
     have:d=cs[j + i]'(by omega):=by rw [List.getElem?_eq_getElem (by omega)] at hd;cases hd;rfl
     rw [this];exact h2
    refine ⟨rfl,rfl,.agg vs.toArray,run_loadn (by rw [ht,hone];rfl) (hm hone) hl fun i v hiv=>(hv i v hiv).1.2,⟨_,rfl,?_⟩⟩
    refine All2.mk (by simp [hl];omega) fun i c v hc hv'=>?_
    have:=(hv i v (by simpa using hv')).2 c (by
     rw [List.getElem?_take] at hc
     split at hc
     ·rwa [List.getElem?_drop] at hc
     ·cases hc)
    exact this.rc
   ·cases h
 ·rename_i k t1 sz i j
  split at h
  case isFalse=>cases h
  rename_i htg
  have e1:=(hy (by simp)).2.2 (by rw [hR.tags];exact htg)
  simp only [ptr] at e1
  subst e1
  split at h
  ·rename_i ty sz' bs es eo
   obtain ⟨arr,c,h1,h2,h3,h4,h5,h6,h7,h8⟩:=hR.obs k _ eo
   split at h
   ·rename_i hsz
    subst hsz
    split at h
    ·rename_i cs ecs
     have hcs:=h6 cs (List.mem_of_getElem? ecs)
     split at h
     ·rename_i hone
      split at h
      ·rename_i c ec
       cases h
       obtain ⟨v,ev,hv⟩:=h7 _ _ _ _ ecs ec
       refine ⟨rfl,rfl,v,run_load1 (by rw [ht,hone];rfl) ?_,fun _=>?_⟩
       ·rw [cell_blk h3];exact ev
       ·exact hv.rc
      ·cases h
     ·rename_i hone
      split at h
      ·rename_i hle
       cases h
       have hone:one=false:=by simpa using hone
       obtain ⟨vs,hl,hv⟩:=list_choose (p:=fun q x=>arr[i * sz + j + q]? = some x ∧ ∀ d,cs[j + q]? = some d → RD g w d x) m fun q hi=>by
        obtain ⟨x,h1,h2⟩:=h7 i (j + q) cs (cs[j + q]'(by omega)) ecs (by simp [show j + q < cs.length by omega])
        refine ⟨x,by rw [Nat.add_assoc];exact h1,fun d hd=>?_⟩
        have:d=cs[j + q]'(by omega):=by rw [List.getElem?_eq_getElem (by omega)] at hd;cases hd;rfl
        rw [this];exact h2
       refine ⟨rfl,rfl,.agg vs.toArray,run_loadn (by rw [ht,hone];rfl) (hm hone) hl fun q v hiv=>?_,⟨_,rfl,?_⟩⟩
       ·rw [add_blk,cell_blk h3];exact (hv q v hiv).1
       ·refine All2.mk (by simp [hl];omega) fun q c v hc hv'=>?_
        have:=(hv q v (by simpa using hv')).2 c (by
         rw [List.getElem?_take] at hc
         split at hc
         ·rwa [List.getElem?_drop] at hc
         ·cases hc)
        exact this.rc
      ·cases h
    ·cases h
   ·cases h
  ·cases h
 ·rename_i ad cs
  obtain ⟨rfl,hh0⟩:=hy (by simp)
  have hh:∀ i d,cs[0 + i]? = some d → ∃ x,Lies g w (ad.add i) x ∧ RD g w d x:=fun i d hd=>hh0 i d (by rwa [Nat.zero_add] at hd)
  split at h
  ·rename_i hone
   split at h
   ·rename_i c ec
    cases h
    obtain ⟨v,hl,hv⟩:=hh 0 c (by simpa using ec)
    refine ⟨rfl,rfl,v,run_load1 (by rw [ht,hone];rfl) ?_,fun _=>?_⟩
    ·have:=hl.2;simpa [Addr.add] using this
    ·exact hv.rc
   ·cases h
  ·rename_i hone
   split at h
   ·rename_i hle
    cases h
    have hone:one=false:=by simpa using hone
    obtain ⟨vs,hl,hv⟩:=list_choose (p:=fun i x=>Lies g w (ad.add i) x ∧ ∀ d,cs[0 + i]? = some d → RD g w d x) m fun i hi=>by
     obtain ⟨x,h1,h2⟩:=hh i (cs[0 + i]'(by omega)) (by simp [show 0 + i < cs.length by omega])
     refine ⟨x,h1,fun d hd=>?_⟩
     have:d=cs[0 + i]'(by omega):=by rw [List.getElem?_eq_getElem (by omega)] at hd;cases hd;rfl
     rw [this];exact h2
    refine ⟨rfl,rfl,.agg vs.toArray,run_loadn (by rw [ht,hone];rfl) (hm hone) hl fun i v hiv=>(hv i v hiv).1.2,⟨_,rfl,?_⟩⟩
    refine All2.mk (by simp [hl];omega) fun i c v hc hv'=>?_
    have:=(hv i v (by simpa using hv')).2 c (by
     rw [List.getElem?_take] at hc
     split at hc
     ·rwa [List.getElem?_drop] at hc
     ·cases hc)
    exact this.rc
   ·cases h
 ·cases h
theorem s_ld1 (hR:Rel I n σ g a w) {x:Operand} {y:SArg} {t t':Nat} (ho:o.op=.load t x) (hx:okA x y=true) (ht:aggT P t=some false) (he:ev1 key σ.ev σ (.ld1 t' y)=some e) (hc:cond true σ.ev σ (.ld1 t' y)):Does P I σ g a w o e:=by
 obtain ⟨h1,h2,v,h3,h4⟩:=loadAt_spec (P:=P) (t:=t) hR (opd hR hx hc) he ht (by simp)
 exact does_quiet hR h1 h2 (by simp [execOp,ho,h3]) h4
theorem s_ldf (hR:Rel I n σ g a w) {x:Operand} {y:SArg} {t t':Nat} (ho:o.op=.load t x) (hx:okA x y=true) (ht:aggT P t=some false) (he:ev1 key σ.ev σ (.ldf t' y)=some e) (hc:cond true σ.ev σ (.ldf t' y)):Does P I σ g a w o e:=by
 simp only [ev1] at he
 unfold ldfE at he
 split at he
 ·rename_i e0 h0
  obtain ⟨h1,h2,v,h3,h4⟩:=loadAt_spec (P:=P) (t:=t) hR (opd hR hx hc) h0 ht (by simp)
  split at he
  ·rename_i f v1 v2 hv
   split at he
   ·rename_i hs
    cases he
    rw [hv] at h4
    obtain rfl:=RV2_v h4
    obtain ⟨a1,a2⟩:=hs
    obtain rfl:=Array.size_eq_zero_iff.1 a1
    obtain rfl:=Array.size_eq_zero_iff.1 a2
    exact does_quiet hR h1 h2 (by simp [execOp,ho,h3]) fun _=>⟨#[],#[],rfl,trivial,trivial⟩
   ·cases he
  ·cases he
 ·cases he
theorem s_ldn (hR:Rel I n σ g a w) {x:Operand} {y:SArg} {t t' m:Nat} (ho:o.op=.load t x) (hx:okA x y=true) (ht:aggT P t=some true) (hm:szT P t=some m) (he:ev1 key σ.ev σ (.ldn t' m y)=some e) (hc:cond true σ.ev σ (.ldn t' m y)):Does P I σ g a w o e:=by
 obtain ⟨h1,h2,v,h3,h4⟩:=loadAt_spec (P:=P) (t:=t) hR (opd hR hx hc) he ht (fun _=>hm)
 exact does_quiet hR h1 h2 (by simp [execOp,ho,h3]) h4
theorem RD_at {sz bs:Nat} {es:List (List Cell)} {v:Value} (h:RD g w (.sl sz bs es) v) {i:Nat} (hi:i < es.length) (hs:0 < sz):∃ ad c,v=.slice (some ad) es.length c ∧ RC g w (.elp (es.getD i []) 0) (.pointer (some (ad.add (i * sz)))):=by
 cases h with
 | sl _ _ _ q c vs a1 a2 a3 a4 a5=>
  have hi':es[i]? = some es[i]:=List.getElem?_eq_getElem hi
  have hlen:=a3 es[i] (List.getElem_mem hi)
  obtain ⟨ad,rfl,_⟩:=a4 i 0 es[i] (es[i][0]'(by omega)) hi' (List.getElem?_eq_getElem (by omega))
  refine ⟨ad,c,rfl,ad.add (i * sz),rfl,fun j d hd=>?_⟩
  simp only [List.getD_eq_getElem?_getD,hi',Option.getD_some,Nat.zero_add] at hd
  obtain ⟨ad',e',hl⟩:=a4 i j es[i] d hi' hd
  cases e'
  refine ⟨vs i j,?_,a5 i j _ d hi' hd⟩
  have:(ad.add (i * sz)).add j=ad.add (i * sz + j):=by
   unfold Addr.add
   by_cases h1:i * sz=0 <;> by_cases h2:j=0 <;> simp [h1,h2]
   omega
  rw [this];exact hl
theorem intOf_spec {x:AV} {m:Int} {y:Value} (hy:RV2 g w x y) (h:intOf? x=some m):y=.int .i64 m:=by
 unfold intOf? at h
 split at h
 ·cases h;exact RV2_v hy
 ·cases h
theorem run_indexAt {t q sz:Nat} {ad:Addr} {len c:Nat} {m:Int} (ht:elemT P t=some q) (hq:szT P q=some sz) (h0:0 ≤ m) (h1:m < len) :
  (Instr.indexAt t (.slice (some ad) len c) (.int .i64 m)).run P w=.ok (.pointer (some (ad.add (m.toNat * sz)))) w:=by
 simp [Instr.indexAt,asIntOf,run_underlying (elemT_spec ht),h0,h1,run_sz hq]
theorem s_iad (hR:Rel I n σ g a w) {x1 x2:Operand} {y1 y2:SArg} {t t' q sz:Nat} (ho:o.op=.indexAddr t x1 x2) (h1:okA x1 y1=true) (h2:okA x2 y2=true) (ht:elemT P t=some q) (hq:szT P q=some sz) (hs:0 < sz)
  (he:ev1 key σ.ev σ (.iad t' sz y1 y2)=some e) (hc:cond true σ.ev σ (.iad t' sz y1 y2)):Does P I σ g a w o e:=by
 have v1:=opd hR h1 hc.1
 have v2:=opd hR h2 hc.2.1
 have hc3:=hc.2.2 rfl
 simp only [ev1] at he
 split at he
 ·rename_i m em
  have e2:=intOf_spec v2 em
  obtain ⟨h0,hb⟩:=hc3 m em
  split at he
  ·rename_i k t1 et
   simp only [et] at hb
   rw [et] at v1
   split at he
   case isFalse=>cases he
   rename_i htg
   obtain ⟨r0,r1,r2⟩:=v1 (by simp)
   have e1:=r2 (by rw [hR.tags];exact htg)
   split at he
   ·rename_i ty sz' bs es eo
    simp only [eo] at hb
    split at he
    ·rename_i hsz
     subst hsz
     cases he
     obtain ⟨arr,c,f1,f2,_⟩:=hR.obs k _ eo
     refine does_quiet hR rfl rfl (v:=ptr g k (m.toNat * sz + 0)) ?_ (fun _=>⟨rfl,r1,fun _=>rfl⟩)
     have e1:=e1.1.trans f1
     have:=run_indexAt (P:=P) (w:=w) (ad:=⟨g.blk k,0,none⟩) (c:=c) ht hq h0 hb
     simp [execOp,ho,e1,e2,this,add_blk,ptr]
    ·cases he
   ·rename_i ty sz' bs es eo
    simp only [eo] at hb
    split at he
    ·rename_i hsz
     subst hsz
     cases he
     obtain ⟨ad,c,f1,f2⟩:=RD_at (hR.obs k _ eo).1 (i:=m.toNat) (by omega) hs
     have e1:=e1.1.trans f1
     refine does_quiet hR rfl rfl (v:=.pointer (some (ad.add (m.toNat * sz)))) ?_ (fun _=>f2)
     have:=run_indexAt (P:=P) (w:=w) (ad:=ad) (c:=c) ht hq h0 hb
     simp [execOp,ho,e1,e2,this]
    ·cases he
   ·rename_i ty sz' bs es eo
    simp only [eo] at hb
    split at he
    ·rename_i hsz
     subst hsz
     cases he
     obtain ⟨f,hf⟩:=hR.obs k _ eo
     obtain ⟨ad,c,f1,f2⟩:=RD_at hf.1 (i:=m.toNat) (by omega) hs
     have e1:=e1.1.trans f1
     refine does_quiet hR rfl rfl (v:=.pointer (some (ad.add (m.toNat * sz)))) ?_ (fun _=>f2)
     have:=run_indexAt (P:=P) (w:=w) (ad:=ad) (c:=c) ht hq h0 hb
     simp [execOp,ho,e1,e2,this]
    ·cases he
   ·cases he
  ·rename_i sz' bs es et
   simp only [et] at hb
   rw [et] at v1
   split at he
   ·rename_i hsz
    cases he
    have hsz:sz=sz':=by
     rcases hsz with h | h
     ·exact h
     ·subst h;simp at hb;omega
    subst hsz
    obtain ⟨ad,c,f1,f2⟩:=RD_at (v1 (by simp)) (i:=m.toNat) (by omega) hs
    refine does_quiet hR rfl rfl (v:=.pointer (some (ad.add (m.toNat * sz)))) ?_ (fun _=>f2)
    have:=run_indexAt (P:=P) (w:=w) (ad:=ad) (c:=c) ht hq h0 hb
    simp [execOp,ho,f1,e2,this]
   ·cases he
  ·rename_i sz' bs es et
   simp only [et] at hb
   rw [et] at v1
   split at he
   ·rename_i hsz
    cases he
    have hsz:sz=sz':=by
     rcases hsz with h | h
     ·exact h
     ·subst h;simp at hb;omega
    subst hsz
    obtain ⟨ad,c,f1,f2⟩:=RD_at (v1 (by simp)).1 (i:=m.toNat) (by omega) hs
    refine does_quiet hR rfl rfl (v:=.pointer (some (ad.add (m.toNat * sz)))) ?_ (fun _=>f2)
    have:=run_indexAt (P:=P) (w:=w) (ad:=ad) (c:=c) ht hq h0 hb
    simp [execOp,ho,f1,e2,this]
   ·cases he
  ·rename_i k t1 q1 et
   simp only [et] at hb
   rw [et] at v1
   split at he
   case isFalse=>cases he
   rename_i htg
   obtain ⟨htg,rfl⟩:=htg
   obtain ⟨r0,r1,r2⟩:=v1 (by simp)
   have e1:=r2 (by rw [hR.tags];exact htg)
   cases he
   refine does_quiet hR rfl rfl (v:=ptr g k m.toNat) ?_ (fun _=>⟨rfl,r1,fun _=>rfl⟩)
   have:=run_indexAt (P:=P) (w:=w) (ad:=⟨g.blk k,0,none⟩) (c:=q1) ht hq h0 hb
   simp [execOp,ho,e1,e2,this,add_blk,ptr]
  ·cases he
 ·cases he
def arrT (P:Program) (t:Nat):Option (Nat × Nat):=match P.underlying t with
 | some (.array m e)=>some (m,e)
 | _=>none
theorem arrT_spec {t m e:Nat} (h:arrT P t=some (m,e)):P.underlying t=some (.array m e):=by
 unfold arrT at h
 split at h
 ·rename_i e';cases h;exact e'
 ·cases h
theorem run_indexArr {t q m sz:Nat} {ad:Addr} {i:Int} (ht:arrT P t=some (m,q)) (hq:szT P q=some sz) (h0:0 ≤ i) (h1:i < m) :
  (Instr.indexAt t (.pointer (some ad)) (.int .i64 i)).run P w=.ok (.pointer (some (ad.add (i.toNat * sz)))) w:=by
 simp [Instr.indexAt,asIntOf,run_underlying (arrT_spec ht),h0,h1,run_sz hq,Instr.sureAddr]
theorem s_iaa (hR:Rel I n σ g a w) {x1 x2:Operand} {y1 y2:SArg} {t t' q sz m:Nat} (ho:o.op=.indexAddr t x1 x2) (h1:okA x1 y1=true) (h2:okA x2 y2=true) (ht:arrT P t=some (m,q)) (hq:szT P q=some sz)
  (he:ev1 key σ.ev σ (.iaa t' sz m y1 y2)=some e) (hc:cond true σ.ev σ (.iaa t' sz m y1 y2)):Does P I σ g a w o e:=by
 have v1:=opd hR h1 hc.1
 have v2:=opd hR h2 hc.2.1
 have hc3:=hc.2.2 rfl
 simp only [ev1] at he
 unfold iaaE at he
 split at he
 ·rename_i i k t1 q1 ei et
  have e2:=intOf_spec v2 ei
  obtain ⟨h0,hb⟩:=hc3 i ei
  split at he
  ·rename_i htg
   cases he
   rw [et] at v1
   obtain ⟨r0,r1,r2⟩:=v1 (by simp)
   have e1:=r2 (by rw [hR.tags];exact htg)
   simp only [ptr] at e1
   refine does_quiet hR rfl rfl (v:=ptr g k (q1 + i.toNat * sz)) ?_ (fun _=>⟨rfl,r1,fun _=>rfl⟩)
   have h3:(⟨g.blk k,q1,none⟩:Addr).add (i.toNat * sz)=⟨g.blk k,q1 + i.toNat * sz,none⟩:=by unfold Addr.add;split <;> simp_all
   have:=run_indexArr (P:=P) (w:=w) (ad:=⟨g.blk k,q1,none⟩) ht hq h0 hb
   simp [execOp,ho,e1,e2,this,h3,ptr]
  ·cases he
 ·rename_i i cs j ei et
  have e2:=intOf_spec v2 ei
  obtain ⟨h0,hb⟩:=hc3 i ei
  cases he
  rw [et] at v1
  obtain ⟨ad,e1,h⟩:=v1 (by simp)
  refine does_quiet hR rfl rfl (v:=.pointer (some (ad.add (i.toNat * sz)))) ?_ (fun _=>⟨_,rfl,fun q d hd=>?_⟩)
  ·have:=run_indexArr (P:=P) (w:=w) (ad:=ad) ht hq h0 hb
   simp [execOp,ho,e1,e2,this]
  ·obtain ⟨z,z1,z2⟩:=h (i.toNat * sz + q) d (by rw [← Nat.add_assoc];exact hd)
   refine ⟨z,?_,z2⟩
   have:(ad.add (i.toNat * sz)).add q=ad.add (i.toNat * sz + q):=by
    unfold Addr.add
    by_cases h1:i.toNat * sz=0 <;> by_cases h2:q=0 <;> simp [h1,h2]
    omega
   rw [this];exact z1
 ·rename_i i k t1 s p j ei et
  have e2:=intOf_spec v2 ei
  obtain ⟨h0,hb⟩:=hc3 i ei
  split at he
  ·rename_i htg
   cases he
   rw [et] at v1
   obtain ⟨r0,r1,r2⟩:=v1 (by simp)
   have e1:=r2 (by rw [hR.tags];exact htg)
   simp only [ptr] at e1
   refine does_quiet hR rfl rfl (v:=ptr g k (p * s + (j + i.toNat * sz))) ?_ (fun _=>⟨rfl,r1,fun _=>rfl⟩)
   have h3:(⟨g.blk k,p * s + j,none⟩:Addr).add (i.toNat * sz)=⟨g.blk k,p * s + (j + i.toNat * sz),none⟩:=by unfold Addr.add;split <;> simp_all [Nat.add_assoc]
   have:=run_indexArr (P:=P) (w:=w) (ad:=⟨g.blk k,p * s + j,none⟩) ht hq h0 hb
   simp [execOp,ho,e1,e2,this,h3,ptr]
  ·cases he
 ·cases he
end Go.Abs

namespace Go.Abs
variable {P:Program} {I:Init} {n:Nat} {σ:St} {g:Gh} {a:Act} {w:World} {o:Oper} {e:Eff} {key:Nat}
theorem setCells_spec {xs cs:List Cell} {vs us:List Value} {off:Nat} (h:All2 (RC g w) cs vs) (k:All2 (RC g w) xs us) (hle:off + xs.length ≤ cs.length) :
  All2 (RC g w) (putC cs off xs) (vs.take off ++ us ++ vs.drop (off + us.length)):=by
 unfold putC
 rw [k.length]
 exact ((h.take off).append k).append (h.drop _)
theorem fold_toList (off:Nat) (us:List Value) (vs:Array Value) (hle:off + us.length ≤ vs.size) :
  ((us.zipIdx 0).foldl (fun cs (x:Value × Nat)=>cs.setIfInBounds (off + x.2) x.1) vs).toList=vs.toList.take off ++ us ++ vs.toList.drop (off + us.length):=by
 obtain ⟨h1,h2⟩:=Great.foldl_set off us 0 vs
 apply List.ext_getElem?
 intro k
 have:=h2 k
 simp only [Nat.add_zero] at this
 rw [Array.getElem?_toList,this]
 by_cases hk:off ≤ k ∧ k < off + us.length ∧ k < vs.size
 ·rw [if_pos hk,List.append_assoc,List.getElem?_append_right (by simp;omega),List.getElem?_append_left (by simp;omega)]
  congr 1
  simp;omega
 ·rw [if_neg hk]
  by_cases hlt:k < off
  ·rw [List.append_assoc,List.getElem?_append_left (by simp;omega),List.getElem?_take,if_pos hlt]
   simp
  ·rw [List.getElem?_append_right (by simp;omega),List.getElem?_drop]
   simp only [List.length_append,List.length_take,Array.length_toList,Array.getElem?_toList]
   congr 1
   have:min off vs.size=off:=by omega
   rw [this];omega
theorem fill_spec {place:Nat → Option (Nat × Nat)}:∀ {ps:List (Nat × Value)} {qs:List (Nat × List Cell)} {vs:Array Value} {cs:List Cell},All2 (RC g w) cs vs.toList →
  All2 (fun q p=>∃ m,place p.1=some (q.1,m) ∧ q.2.length=m ∧ q.1 + m ≤ cs.length ∧ All2 (RC g w) q.2 p.2.cells.toList) qs ps → ∃ r,Instr.fill place vs ps=some r ∧ All2 (RC g w) (fillC cs qs) r.toList
 | [],[],vs,cs,h,_=>⟨vs,rfl,h⟩
 | (i,v) :: ps,(off,xs) :: qs,vs,cs,h,k=>by
  obtain ⟨⟨m,k1,k2,k3,k4⟩,kr⟩:=k
  have hl:=k4.length
  have hl2:=h.length
  simp only at k1 k2 k3 k4 hl
  have hlen:(putC cs off xs).length=cs.length:=by simp [putC];omega
  have hf:=fold_toList off v.cells.toList vs (by simp at hl hl2 ⊢;omega)
  have hh:=setCells_spec (off:=off) h k4 (by omega)
  rw [← hf] at hh
  obtain ⟨r,r1,r2⟩:=fill_spec hh (kr.imp fun q hq p hp=>by rw [hlen];exact hp)
  refine ⟨r,?_,r2⟩
  unfold Instr.fill
  simp only [k1]
  rw [if_neg (by simp at hl hl2 ⊢;omega)]
  rw [← r1]
  congr 1
  rw [← Array.foldl_toList,Array.toList_zipIdx]
 | [],_ :: _,_,_,_,k=>k.elim
 | _ :: _,[],_,_,_,k=>k.elim
theorem zeroOK_spec {t:Nat} {zs:List Cell} (h:zeroOK P t zs=true):∃ z,(∀ w:World,(zeroValue t).run P w=.ok z w) ∧ ∀ (g:Gh) (w:World),All2 (RC g w) zs z.cells.toList:=by
 unfold zeroOK at h
 split at h
 ·rename_i i hi
  split at h
  ·rename_i z hz
   exact ⟨z,fun w=>by simp [zeroValue,typeInfo,hi,hz],fun g w=>zcs_spec h⟩
  ·cases h
 ·cases h
def okPs (P:Program) (t:Nat):List (Nat × Operand) → List (Nat × Nat × Nat × SArg) → Bool
 | [],[]=>true
 | (i,x) :: r,(j,off,m,y) :: s=>decide (i=j) && okA x y && (match fldT P t i with | some (off',u)=>decide (off=off') && decide (szT P u=some m) | none=>false) && okPs P t r s
 | _,_=>false
theorem mapM_places {fs:List Field} (h:∀ f,f ∈ fs → ∃ m,szT P f.type=some m) (w:World) :
  (fs.mapM fun (f:Field)=>do pure (f.offset,← sizeOf f.type)).run P w=.ok (fs.map fun (f:Field)=>(f.offset,(szT P f.type).getD 0)) w:=by
 induction fs with
 | nil=>simp
 | cons f fs ih=>
  obtain ⟨m,hm⟩:=h f (by simp)
  simp only [List.mapM_cons,Sem.run_bind,run_sz hm,Result.andThen_ok,Sem.run_pure]
  rw [ih fun f hf=>h f (by simp [hf])]
  simp [hm]
def fldsOK (P:Program) (t:Nat):Bool:=match P.underlying t with
 | some (.struct fs)=>fs.toList.all fun f=>(szT P f.type).isSome
 | _=>false
theorem parts_spec (hR:Rel I n σ g a w) {t:Nat} {fs:Array Field} (hu:P.underlying t=some (.struct fs)) {cs:List Cell}:∀ {ps:List (Nat × Operand)} {qs:List (Nat × Nat × Nat × SArg)} {l:List (Nat × List Cell)},okPs P t ps qs=true →
  (∀ p,p ∈ qs → gok true (σ.ev p.2.2.2)) → (∀ p,p ∈ qs → ∀ ds,cellsOf (un (σ.ev p.2.2.2))=some ds → ds.length=p.2.2.1 ∧ p.2.1 + p.2.2.1 ≤ cs.length) → partCs σ.ev qs=some l →
  All2 (fun q p=>∃ m,(fun i=>((fs.toList.map fun f=>(f.offset,(szT P f.type).getD 0)).toArray)[i]?) p.1=some (q.1,m) ∧ q.2.length=m ∧ q.1 + m ≤ cs.length ∧ All2 (RC g w) q.2 p.2.cells.toList) l (ps.map fun x=>(x.1,a.eval x.2))
 | [],[],l,_,_,_,h=>by simp [partCs] at h;subst h;trivial
 | (i,x) :: ps,(j,off,m,y) :: qs,l,hok,hg,hl,h=>by
  simp only [okPs,Bool.and_eq_true,decide_eq_true_eq] at hok
  obtain ⟨⟨⟨rfl,hx⟩,hf⟩,hr⟩:=hok
  simp only [partCs] at h
  split at h
  ·rename_i ds l' e1 e2
   cases h
   have ih:=parts_spec hR hu hr (fun p hp=>hg p (by simp [hp])) (fun p hp=>hl p (by simp [hp])) e2
   refine ⟨?_,ih⟩
   obtain ⟨h1,h2⟩:=hl _ (List.mem_cons_self) ds e1
   simp only at h1 h2
   refine ⟨m,?_,h1,h2,cellsOf_spec (opd hR hx (hg _ (List.mem_cons_self))) e1⟩
   split at hf
   ·rename_i off' u ef
    simp only [Bool.and_eq_true,decide_eq_true_eq] at hf
    obtain ⟨rfl,hm⟩:=hf
    obtain ⟨fs',f,q1,q2,rfl,rfl⟩:=fldT_spec ef
    rw [hu] at q1
    cases q1
    simp [q2,hm]
   ·cases hf
  ·cases h
 | [],_ :: _,_,hok,_,_,_=>by simp [okPs] at hok
 | _ :: _,[],_,hok,_,_,_=>by simp [okPs] at hok
theorem s_build (hR:Rel I n σ g a w) {t t':Nat} {zs:List Cell} {ps:Array (Nat × Operand)} {qs:List (Nat × Nat × Nat × SArg)} (ho:o.op=.build t ps) (hz:zeroOK P t zs=true) (hfs:fldsOK P t=true) (hp:okPs P t ps.toList qs=true)
  (he:ev1 key σ.ev σ (.build t' zs qs)=some e) (hc:cond true σ.ev σ (.build t' zs qs)):Does P I σ g a w o e:=by
 obtain ⟨z,z1,z2⟩:=zeroOK_spec hz
 unfold fldsOK at hfs
 split at hfs
 ·rename_i fs hu
  simp only [ev1] at he
  split at he
  ·rename_i l el
   cases he
   obtain ⟨r,r1,r2⟩:=fill_spec (z2 g w) (parts_spec hR hu hp hc.1 hc.2 el)
   refine does_quiet hR rfl rfl (v:=.agg r) ?_ ⟨r,rfl,r2⟩
   have hm:=mapM_places (P:=P) (fs:=fs.toList) (fun f hf=>by
    have:=(List.all_eq_true.1 hfs) f hf
    exact Option.isSome_iff_exists.1 this) w
   obtain ⟨fs⟩:=fs
   have e1:(ps.map fun (x:Nat × Operand)=>(x.1,a.eval x.2)).toList=ps.toList.map fun x=>(x.1,a.eval x.2):=by simp
   simp only [execOp,ho,Instr.build,Sem.run_bind,z1,Result.andThen_ok,run_underlying hu]
   simp only at hm r1
   simp only [List.mapM_toArray,Sem.run_map,hm,Result.andThen_ok]
   rw [show (Array.map (fun x=>match x with | (i,x)=>(i,a.eval x)) ps).toList=ps.toList.map fun x=>(x.1,a.eval x.2) from e1]
   rw [r1]
   simp
  ·cases he
 ·cases hfs
def okPsA (sz:Nat):List (Nat × Operand) → List (Nat × Nat × Nat × SArg) → Bool
 | [],[]=>true
 | (i,x) :: r,(j,off,m,y) :: s=>decide (i=j) && okA x y && decide (off=i * sz) && decide (m=sz) && okPsA sz r s
 | _,_=>false
def okArr (P:Program) (t:Nat) (ps:List (Nat × Operand)) (qs:List (Nat × Nat × Nat × SArg)):Bool:=match arrT P t with
 | some (_,e)=>(match szT P e with
  | some sz=>okPsA sz ps qs
  | none=>false)
 | none=>false
theorem partsA_spec (hR:Rel I n σ g a w) {sz:Nat} {cs:List Cell}:∀ {ps:List (Nat × Operand)} {qs:List (Nat × Nat × Nat × SArg)} {l:List (Nat × List Cell)},okPsA sz ps qs=true →
  (∀ p,p ∈ qs → gok true (σ.ev p.2.2.2)) → (∀ p,p ∈ qs → ∀ ds,cellsOf (un (σ.ev p.2.2.2))=some ds → ds.length=p.2.2.1 ∧ p.2.1 + p.2.2.1 ≤ cs.length) → partCs σ.ev qs=some l →
  All2 (fun q p=>∃ m,(fun i=>some (i * sz,sz)) p.1=some (q.1,m) ∧ q.2.length=m ∧ q.1 + m ≤ cs.length ∧ All2 (RC g w) q.2 p.2.cells.toList) l (ps.map fun x=>(x.1,a.eval x.2))
 | [],[],l,_,_,_,h=>by simp [partCs] at h;subst h;trivial
 | (i,x) :: ps,(j,off,m,y) :: qs,l,hok,hg,hl,h=>by
  simp only [okPsA,Bool.and_eq_true,decide_eq_true_eq] at hok
  obtain ⟨⟨⟨⟨rfl,hx⟩,hoff⟩,hm⟩,hr⟩:=hok
  simp only [partCs] at h
  split at h
  ·rename_i ds l' e1 e2
   cases h
   have ih:=partsA_spec hR hr (fun p hp=>hg p (by simp [hp])) (fun p hp=>hl p (by simp [hp])) e2
   refine ⟨?_,ih⟩
   obtain ⟨h1,h2⟩:=hl _ (List.mem_cons_self) ds e1
   simp only at h1 h2
   exact ⟨m,by simp only [hoff,hm],h1,h2,cellsOf_spec (opd hR hx (hg _ (List.mem_cons_self))) e1⟩
  ·cases h
 | [],_ :: _,_,hok,_,_,_=>by simp [okPsA] at hok
 | _ :: _,[],_,hok,_,_,_=>by simp [okPsA] at hok
theorem s_builda (hR:Rel I n σ g a w) {t t':Nat} {zs:List Cell} {ps:Array (Nat × Operand)} {qs:List (Nat × Nat × Nat × SArg)} (ho:o.op=.build t ps) (hz:zeroOK P t zs=true) (hp:okArr P t ps.toList qs=true)
  (he:ev1 key σ.ev σ (.build t' zs qs)=some e) (hc:cond true σ.ev σ (.build t' zs qs)):Does P I σ g a w o e:=by
 obtain ⟨z,z1,z2⟩:=zeroOK_spec hz
 unfold okArr at hp
 split at hp
 ·rename_i m el hu
  split at hp
  ·rename_i sz hsz
   simp only [ev1] at he
   split at he
   ·rename_i l el
    cases he
    obtain ⟨r,r1,r2⟩:=fill_spec (place:=fun i=>some (i * sz,sz)) (z2 g w) (partsA_spec hR hp hc.1 hc.2 el)
    refine does_quiet hR rfl rfl (v:=.agg r) ?_ ⟨r,rfl,r2⟩
    have e1:(ps.map fun (x:Nat × Operand)=>(x.1,a.eval x.2)).toList=ps.toList.map fun x=>(x.1,a.eval x.2):=by simp
    simp only [execOp,ho,Instr.build,Sem.run_bind,z1,Result.andThen_ok,run_underlying (arrT_spec hu),run_sz hsz]
    rw [show (Array.map (fun x=>match x with | (i,x)=>(i,a.eval x)) ps).toList=ps.toList.map fun x=>(x.1,a.eval x.2) from e1]
    rw [r1]
    simp
   ·cases he
  ·cases hp
 ·cases hp
end Go.Abs

namespace Go.Abs
variable {P:Program} {I:Init} {n:Nat} {σ:St} {g g':Gh} {a:Act} {w:World} {o:Oper} {e:Eff} {key:Nat}
theorem act_lt {k:Nat} {q:Obj} (h:ObOK g w k q) (ha:Active g k q):g.blk k < w.heap.size:=by
 have aux:∀ x,w.heap[g.blk k]? = some x → g.blk k < w.heap.size:=fun x hx=>(Array.getElem?_eq_some_iff.1 hx).1
 cases q with
 | box ty cs=>obtain ⟨vs,h1,_⟩:=h;exact aux _ h1
 | row ty sz bs es=>
  obtain ⟨p,m,c,h1,h2⟩:=ha
  obtain ⟨_,⟨arr,h3,_⟩,_⟩:=h.2 p m c h1 h2
  exact aux _ h3
 | cut ty sz bs es=>
  obtain ⟨p,m,c,h1,h2⟩:=ha
  obtain ⟨_,h⟩:=h
  obtain ⟨_,⟨arr,h3,_⟩,_⟩:=h.2 p m c h1 h2
  exact aux _ h3
 | mrow ty sz bs es=>obtain ⟨arr,c,_,_,h3,_⟩:=h;exact aux _ h3
 | mob one es=>obtain ⟨arr,c,h1,_⟩:=h;exact aux _ h1
theorem heap_old (x:Go.Obj) {b:Nat} (h:b < w.heap.size):(w.alloc x).heap[b]? = w.heap[b]?:=Go.RowKit.Below.heap_alloc w x b h
theorem heap_new (x:Go.Obj):(w.alloc x).heap[w.heap.size]? = some x:=Go.heap_alloc_new w x
theorem size_alloc (x:Go.Obj):(w.alloc x).heap.size=w.heap.size + 1:=by show (w.heap.push x).size=_;simp
theorem shp_blk {w w':World} {b ty n:Nat} (h:w'.heap[b]? = w.heap[b]?) (hs:shp w b ty n):shp w' b ty n:=by unfold shp;rw [h];exact hs
theorem Kp_alloc (x:Go.Obj) (hw:∀ b q,g.st b q → b < w.heap.size) (hs:∀ b q,g.st b q → g'.st b q) (hlo:g'.lo=g.lo:=by rfl):Kp g w g' (w.alloc x):=
 ⟨fun ad h=>⟨hs _ _ h,World.cell?_of_block (heap_old x (hw _ _ h))⟩,hlo,fun b ty n q h hf=>shp_blk (heap_old x (hw _ _ h)) hf⟩
theorem Step.alloc (hR:Rel I n σ g a w) (x:Go.Obj) {S:Nat → Prop} {pur:List Nat} {put:List (Nat × Obj)} (hst:∀ b q,g'.st b q ↔ g.st b q ∨ (b=w.heap.size ∧ S q))
  (hag:∀ k,k ∉ pur → g'.tg k=g.tg k ∧ g'.blk k=g.blk k ∧ g'.rv k=g.rv k) (hanew:∀ k,k ∈ pur → g'.tg k=g.tg k + 1) (hput:put=[] ∨ ∃ q,put=[(key,q)] ∧ ObOK g' (w.alloc x) key q ∧ (Active g' key q → g'.blk key=w.heap.size)) (hlo:g'.lo=g.lo:=by rfl) :
  Step I σ g w pur put g' (w.alloc x):=by
 have hk:Kp g w g' (w.alloc x):=Kp_alloc x hR.wok (fun b q h=>(hst b q).2 (.inl h)) hlo
 have one:∀ k q,put.lookup k=some q → k=key ∧ ObOK g' (w.alloc x) key q ∧ (Active g' key q → g'.blk key=w.heap.size):=fun k q h=>by
  rcases hput with rfl | ⟨q',rfl,h1,h2⟩
  ·simp at h
  ·simp only [List.lookup_cons] at h
   split at h
   ·rename_i hkk;cases h;exact ⟨by simpa using hkk,h1,h2⟩
   ·simp at h
 refine
  {kp:=hk,agree:=hag,anew:=hanew,puts:=fun k q h=>?_,keep:=fun k q h ha _ _=>⟨heap_old x (act_lt (hR.obs k q h) ha),fun y hy=>?_⟩,sep:=fun k q h ha k' q' h' ha' _ _=>?_,seps:=fun k k' q q' h h' _ _ _=>?_,
   loc:=fun k q h ha=>?_,wok:=fun b q h=>?_,os:=rfl,tape:=rfl,out:=rfl,grow:=by rw [size_alloc];omega,frame:=fun b hb hm=>⟨heap_old x (Nat.lt_of_lt_of_le hb hR.grow),fun y=>?_⟩ }
 ·obtain ⟨rfl,h1,_⟩:=one k q h;exact h1
 ·rcases (hst _ _).1 hy with h' | ⟨h',_⟩
  ·exact h'
  ·exact absurd h' (Nat.ne_of_lt (act_lt (hR.obs k q h) ha))
 ·obtain ⟨rfl,_,h2⟩:=one k q h
  rw [h2 ha]
  exact Nat.ne_of_lt (act_lt (hR.obs k' q' h') ha')
 ·exact (one k q h).1.trans (one k' q' h').1.symm
 ·obtain ⟨rfl,_,h2⟩:=one k q h
  rw [h2 ha]
  exact .inr hR.grow
 ·rw [size_alloc]
  rcases (hst _ _).1 h with h' | ⟨h',_⟩
  ·have:=hR.wok _ _ h';omega
  ·omega
 ·rw [hst]
  constructor
  ·intro h
   rcases h with h | ⟨h,_⟩
   ·exact h
   ·have:=hR.grow;omega
  ·exact .inl
def Gh.at (g:Gh) (key b:Nat) (v:Value) (st:Nat → Nat → Prop) (pur:List Nat):Gh:=⟨st,fun k=>if k=key then b else g.blk k,fun k=>if k=key then v else g.rv k,fun k=>if pur.contains k then g.tg k + 1 else g.tg k,g.lo⟩
theorem Gh.at_agree (g:Gh) (key b:Nat) (v:Value) (st:Nat → Nat → Prop) {pur:List Nat} (h:key ∈ pur):∀ k,k ∉ pur → (g.at key b v st pur).tg k=g.tg k ∧ (g.at key b v st pur).blk k=g.blk k ∧ (g.at key b v st pur).rv k=g.rv k:=fun k hk=>by
 have:k ≠ key:=fun e=>hk (e ▸ h)
 simp [Gh.at,this,hk]
theorem Gh.at_anew (g:Gh) (key b:Nat) (v:Value) (st:Nat → Nat → Prop) {pur:List Nat}:∀ k,k ∈ pur → (g.at key b v st pur).tg k=g.tg k + 1:=fun k hk=>by simp [Gh.at,hk]
theorem Gh.at_le (g:Gh) (key b:Nat) (v:Value) (st:Nat → Nat → Prop) {pur:List Nat} (h:key ∈ pur):g.Le (g.at key b v st pur):=⟨fun k=>by
 by_cases hk:k ∈ pur
 ·exact .inl (by rw [g.at_anew key b v st k hk];omega)
 ·exact .inr (g.at_agree key b v st h k hk)⟩
theorem Gh.at_key (g:Gh) (key b:Nat) (v:Value) (st:Nat → Nat → Prop) {pur:List Nat} (h:key ∈ pur):(g.at key b v st pur).tg key=g.tg key + 1 ∧ (g.at key b v st pur).blk key=b ∧ (g.at key b v st pur).rv key=v:=by simp [Gh.at,h]
theorem does_box (hR:Rel I n σ g a w) {ty:Nat} {cs:List Cell} {l:List Nat} {vs:Array Value} (hv:All2 (RC g w) cs vs.toList) (hr:(execOp a.eval o).run P w=.ok (.value (.pointer (some ⟨w.heap.size,0,none⟩))) (w.alloc (.cells vs ty)))
  (he:e=⟨.c (.ref key (σ.tg key + 1) 0),[key],[(key,.box ty cs)],l⟩):Does P I σ g a w o e:=by
 subst he
 obtain ⟨k1,k2,k3⟩:=g.at_key key w.heap.size undef g.st (pur:=[key]) (by simp)
 refine ⟨_,g.at key w.heap.size undef g.st [key],_,.inl hr,?_,fun _=>⟨rfl,by rw [k1,hR.tags];exact Nat.le_refl _,fun _=>by simp [ptr,k2]⟩⟩
 refine Step.alloc (key:=key) hR _ (S:=fun _=>False) (fun b q=>by simp [Gh.at]) (g.at_agree _ _ _ _ (by simp)) (g.at_anew _ _ _ _) (.inr ⟨_,rfl,?_,fun _=>k2⟩)
 refine ⟨vs,by rw [k2];exact heap_new _,RC.monos (g':=g.at key w.heap.size undef g.st [key]) (Kp_alloc _ hR.wok fun _ _ h=>h) (g.at_le _ _ _ _ (by simp)) hv,fun q hq=>?_⟩
 rw [k2] at hq
 have:=hR.wok _ _ hq
 omega
theorem s_box (hR:Rel I n σ g a w) {x:Operand} {y:SArg} {t:Nat} (ho:o.op=.box t x) (hx:okA x y=true) (he:ev1 key σ.ev σ (.box t y)=some e) (hc:cond true σ.ev σ (.box t y)):Does P I σ g a w o e:=by
 have v1:=opd hR hx hc
 simp only [ev1] at he
 split at he
 ·rename_i cs ec
  cases he
  exact does_box hR (cellsOf_spec v1 ec) (by simp [execOp,ho,Instr.box,newVar,newRow]) rfl
 ·cases he
theorem s_alloc (hR:Rel I n σ g a w) {t:Nat} {zs:List Cell} (ho:o.op=.alloc t) (hz:zeroOK P t zs=true) (he:ev1 key σ.ev σ (.alloc t zs)=some e):Does P I σ g a w o e:=by
 obtain ⟨z,z1,z2⟩:=zeroOK_spec hz
 simp only [ev1,Option.some.injEq] at he
 refine does_box (key:=key) (vs:=z.cells) (ty:=t) (cs:=zs) hR (z2 g w) (by simp [execOp,ho,Instr.alloc,newVar,newRow,z1]) he.symm
theorem litEs_spec (hR:Rel I n σ g a w):∀ {xs:List Operand} {ys:List SArg} {es:List (List Cell)},All2 (fun x y=>okA x y=true) xs ys → (∀ y,y ∈ ys → gok true (σ.ev y)) → litEs σ (ys.map σ.ev)=some es →
  All2 (fun l v=>All2 (RC g w) l v.cells.toList) es (xs.map a.eval)
 | [],[],es,_,_,h=>by simp [litEs] at h;subst h;trivial
 | x :: xs,y :: ys,es,h,hg,hk=>by
  simp only [List.map_cons,litEs] at hk
  split at hk
  ·rename_i cs l e1 e2
   cases hk
   have v1:=opd hR h.1 (hg y (by simp))
   exact ⟨(cellsOf_spec v1 e1).map_left _ fun c v hcv=>toD_spec hR hcv,litEs_spec hR h.2 (fun y hy=>hg y (by simp [hy])) e2⟩
  ·cases hk
 | [],_ :: _,_,h,_,_=>h.elim
 | _ :: _,[],_,h,_,_=>h.elim
theorem RD_flatF {sz bs b f c:Nat} {es:List (List Cell)} {arr:List Value} (hc:es.length ≤ c) (hb:es.length * bs ≤ room) (hs:∀ l,l ∈ es → l.length=sz)
  (h:∀ i j l d,es[i]? = some l → l[j]? = some d → ∃ x,arr[i * sz + j]? = some x ∧ Lies g w ⟨b,f + (i * sz + j),none⟩ x ∧ RD g w d x):RD g w (.sl sz bs es) (.slice (some ⟨b,f,none⟩) es.length c):=by
 refine .sl sz bs es (some ⟨b,f,none⟩) c (fun i j=>arr.getD (i * sz + j) undef) hc hb hs (fun i j l d h1 h2=>?_) (fun i j l d h1 h2=>?_)
 ·obtain ⟨x,e1,e2,_⟩:=h i j l d h1 h2
  refine ⟨_,rfl,?_⟩
  rw [add_blk,List.getD_eq_getElem?_getD,e1]
  exact e2
 ·obtain ⟨x,e1,_,e3⟩:=h i j l d h1 h2
  rw [List.getD_eq_getElem?_getD,e1]
  exact e3
theorem RD_flat {sz bs b c:Nat} {es:List (List Cell)} {arr:List Value} (hc:es.length ≤ c) (hb:es.length * bs ≤ room) (hs:∀ l,l ∈ es → l.length=sz)
  (h:∀ i j l d,es[i]? = some l → l[j]? = some d → ∃ x,arr[i * sz + j]? = some x ∧ Lies g w ⟨b,i * sz + j,none⟩ x ∧ RD g w d x):RD g w (.sl sz bs es) (.slice (some ⟨b,0,none⟩) es.length c):=RD_flatF hc hb hs (by simpa using h)
theorem flat_at {sz:Nat}:∀ {es:List (List Cell)} {vs:List Value},All2 (fun l v=>All2 (RC g w) l v.cells.toList) es vs → (∀ l,l ∈ es → l.length=sz) → ∀ i j l d,es[i]? = some l → l[j]? = some d →
  ∃ x,(vs.flatMap fun v=>v.cells.toList)[i * sz + j]? = some x ∧ RC g w d x
 | [],[],_,_,i,j,l,d,h,_=>by simp at h
 | l0 :: es,v :: vs,h,hs,0,j,l,d,h1,h2=>by
  simp at h1;subst h1
  obtain ⟨x,e1,e2⟩:=h.1.get j d h2
  refine ⟨x,?_,e2⟩
  rw [List.flatMap_cons,Nat.zero_mul,Nat.zero_add,List.getElem?_append_left (List.getElem?_eq_some_iff.1 e1).1]
  exact e1
 | l0 :: es,v :: vs,h,hs,i + 1,j,l,d,h1,h2=>by
  obtain ⟨x,e1,e2⟩:=flat_at h.2 (fun l hl=>hs l (by simp [hl])) i j l d (by simpa using h1) h2
  refine ⟨x,?_,e2⟩
  have hl:v.cells.toList.length=sz:=h.1.length.symm.trans (hs l0 (by simp))
  rw [List.flatMap_cons,List.getElem?_append_right (by rw [hl];simp [Nat.add_mul];omega),hl]
  rw [show (i + 1) * sz + j - sz=i * sz + j by simp [Nat.add_mul];omega]
  exact e1
 | [],_ :: _,h,_,_,_,_,_,_,_=>h.elim
 | _ :: _,[],h,_,_,_,_,_,_,_=>h.elim
def okLit:Nat → List (Nat × Operand) → List SArg → Bool
 | _,[],[]=>true
 | i,(j,x) :: r,y :: s=>decide (i=j) && okA x y && okLit (i + 1) r s
 | _,_,_=>false
theorem okLit_spec:∀ {i:Nat} {ps:List (Nat × Operand)} {ys:List SArg},okLit i ps ys=true → ps=((ps.map (·.2)).zipIdx i).map (fun x=>(x.2,x.1)) ∧ All2 (fun x y=>okA x y=true) (ps.map (·.2)) ys
 | _,[],[],_=>⟨rfl,trivial⟩
 | i,(j,x) :: r,y :: s,h=>by
  simp only [okLit,Bool.and_eq_true,decide_eq_true_eq] at h
  obtain ⟨⟨rfl,h1⟩,h2⟩:=h
  obtain ⟨e1,e2⟩:=okLit_spec h2
  exact ⟨by simp only [List.map_cons,List.zipIdx_cons];rw [← e1],h1,e2⟩
 | _,[],_ :: _,h=>by simp [okLit] at h
 | _,_ :: _,[],h=>by simp [okLit] at h
theorem s_lit (hR:Rel I n σ g a w) {t ty sz bs len:Nat} {ps:Array (Nat × Operand)} {ys:List SArg} (ho:o.op=.buildSlice t len ps) (ht:elemT P t=some ty) (hsz:szT P ty=some sz) (hs0:0 < sz) (hlen:len=ys.length) (hz:∃ z,∀ w:World,(zeroValue ty).run P w=.ok z w)
  (hp:okLit 0 ps.toList ys=true) (he:ev1 key σ.ev σ (.lit ty sz bs ys)=some e) (hc:cond true σ.ev σ (.lit ty sz bs ys)):Does P I σ g a w o e:=by
 obtain ⟨z,z1⟩:=hz
 obtain ⟨p1,p2⟩:=okLit_spec hp
 simp only [ev1] at he
 split at he
 ·rename_i es el
  cases he
  have hes:=litEs_spec hR p2 hc.1 el
  obtain ⟨c1,c2⟩:=hc.2 es el
  obtain ⟨c2,c3⟩:=c2 rfl
  have hl1:es.length=ys.length:=by
   have:=hes.length;have:=p2.length;simp at *;omega
  have hvs:∀ v,v ∈ (ps.toList.map (·.2)).map a.eval → v.cells.size=sz:=fun v hv=>by
   obtain ⟨i,hi,rfl⟩:=List.getElem_of_mem hv
   obtain ⟨l,hl⟩:∃ l,es[i]? = some l:=⟨es[i]'(by have:=hes.length;omega),List.getElem?_eq_getElem _⟩
   obtain ⟨v',e1,e2⟩:=hes.get i l hl
   rw [List.getElem?_eq_getElem hi] at e1
   cases e1
   have:=e2.length
   simp at this
   have h2:=(c1 l (List.mem_of_getElem? hl)).1
   simp
   omega
  let cells:Array Value:=(((ps.toList.map (·.2)).map a.eval).flatMap fun v=>v.cells.toList).toArray
  have hrun:(execOp a.eval o).run P w=.ok (.value (.slice (some ⟨w.heap.size,0,none⟩) es.length es.length)) (w.alloc (.cells cells ty)):=by
   have hfill:=Great.fill_whole hs0 ((ps.toList.map (·.2)).map a.eval) ((Array.range (len * sz)).map (fun x=>(if len * sz=0 then (#[]:Array Value) else z.cells)[x % (if len * sz=0 then (#[]:Array Value) else z.cells).size]!)) hvs (by
    have:=p2.length
    simp at this ⊢
    rw [this,hlen])
   have e1:(ps.map fun (x:Nat × Operand)=>(x.1,a.eval x.2)).toList=((((ps.toList.map (·.2)).map a.eval)).zipIdx 0).map (fun x=>(x.2,x.1)):=by
    simp only [Array.toList_map]
    conv=>lhs;rw [p1]
    simp [List.zipIdx_map,Function.comp_def]
   have hroom:¬ (len * sz > 2 ^ 24):=by rw [hlen,← hl1];omega
   simp only [execOp,ho,Instr.buildSlice,Sem.run_bind,run_underlying (elemT_spec ht),Result.andThen_ok,run_sz hsz,hroom,if_false]
   by_cases h0:len * sz=0
   ·rw [if_pos h0]
    simp only [h0,if_true] at hfill
    rw [Sem.run_bind,Sem.run_pure,Result.andThen_ok,e1,h0,hfill]
    simp [newRow,hlen,hl1,cells]
   ·rw [if_neg h0]
    simp only [h0,if_false] at hfill
    simp only [Sem.run_bind,z1,Sem.run_pure,Result.andThen_ok]
    rw [e1,hfill]
    simp [newRow,hlen,hl1,cells]
  refine ⟨_,⟨fun b q=>g.st b q ∨ (b=w.heap.size ∧ True),g.blk,g.rv,g.tg,g.lo⟩,_,.inl hrun,Step.alloc (key:=key) hR _ (pur:=[]) (S:=fun _=>True) (fun b q=>Iff.rfl) (fun k _=>⟨rfl,rfl,rfl⟩) (fun k h=>by simp at h) (.inl rfl),fun _=>⟨?_,_,rfl⟩⟩
  refine RD_flat (arr:=cells.toList) (Nat.le_refl _) c2 (fun l hl=>(c1 l hl).1) fun i j l d h1 h2=>?_
  obtain ⟨x,f1,f2⟩:=flat_at hes (fun l hl=>(c1 l hl).1) i j l d h1 h2
  have hd:d.isD=true:=(List.all_eq_true.1 (c1 l (List.mem_of_getElem? h1)).2) d (List.mem_of_getElem? h2)
  refine ⟨x,f1,⟨.inr ⟨rfl,trivial⟩,?_⟩,(isD_spec f2 hd).mono (Kp_alloc _ hR.wok fun b q h=>Or.inl h)⟩
  rw [cell_blk (heap_new _)]
  simpa [cells] using f1
 ·cases he
end Go.Abs

namespace Go.Abs
variable {P:Program} {I:Init} {n:Nat} {σ:St} {g g':Gh} {a:Act} {w w':World} {o:Oper} {e:Eff} {key:Nat}
theorem Step.of_drew {pur:List Nat} {put:List (Nat × Obj)} (h:Step I σ g w.drew pur put g' w'):Step I σ g w pur put g' w' where
 kp:=⟨fun ad hd=>h.kp.keep ad hd,h.kp.lo,fun b ty n q hq hf=>h.kp.kf b ty n q hq hf⟩
 agree:=h.agree
 anew:=h.anew
 puts:=h.puts
 keep:=h.keep
 sep:=h.sep
 seps:=h.seps
 loc:=h.loc
 wok:=h.wok
 os:=h.os
 tape:=h.tape
 out:=h.out
 grow:=h.grow
 frame:=h.frame
theorem RD_list {sz bs:Nat} {es:List (List Cell)} {v:Value} (h:RD g w (.sl sz bs es) v) (hs0:0 < sz) :
  ∃ (q:Option Addr) (c:Nat) (l:List Value),v=.slice q es.length c ∧ es.length ≤ c ∧ es.length * bs ≤ room ∧ (∀ x,x ∈ es → x.length=sz) ∧ l.length=es.length * sz ∧ (0 < es.length → ∃ ad,q=some ad ∧ ∀ j u,l[j]? = some u → Lies g w (ad.add j) u) ∧
   (∀ i j x d,es[i]? = some x → x[j]? = some d → ∃ u,l[i * sz + j]? = some u ∧ RD g w d u) ∧ ∀ u,u ∈ l → u.oneCell'=true:=by
 cases h with
 | sl _ _ _ q c vs a1 a2 a3 a4 a5=>
  have hat:∀ p,p < es.length * sz → ∃ x d,es[p / sz]? = some x ∧ x[p % sz]? = some d:=fun p hp=>by
   have h1:p / sz < es.length:=Nat.div_lt_of_lt_mul (by rw [Nat.mul_comm];exact hp)
   have h2:p % sz < sz:=Nat.mod_lt _ hs0
   have h3:=a3 es[p / sz] (List.getElem_mem h1)
   exact ⟨es[p / sz],es[p / sz][p % sz]'(by omega),List.getElem?_eq_getElem h1,List.getElem?_eq_getElem (by omega)⟩
  have hlen:((List.range (es.length * sz)).map fun p=>vs (p / sz) (p % sz)).length=es.length * sz:=by simp
  have hget:∀ j u,((List.range (es.length * sz)).map fun p=>vs (p / sz) (p % sz))[j]? = some u → j < es.length * sz ∧ u=vs (j / sz) (j % sz):=fun j u hj=>by
   have hj':j < es.length * sz:=by
    have:=(List.getElem?_eq_some_iff.1 hj).1
    simpa using this
   rw [List.getElem?_map,List.getElem?_range hj'] at hj
   exact ⟨hj',by simpa using hj.symm⟩
  have hdm:∀ p,p / sz * sz + p % sz=p:=fun p=>by rw [Nat.mul_comm];exact Nat.div_add_mod p sz
  refine ⟨q,c,(List.range (es.length * sz)).map fun p=>vs (p / sz) (p % sz),rfl,a1,a2,a3,hlen,fun hp=>?_,fun i j x d h1 h2=>?_,fun u hu=>?_⟩
  ·obtain ⟨x,d,e1,e2⟩:=hat 0 (Nat.mul_pos hp hs0)
   obtain ⟨ad,rfl,_⟩:=a4 _ _ x d e1 e2
   refine ⟨ad,rfl,fun j u hj=>?_⟩
   obtain ⟨hj',rfl⟩:=hget j u hj
   obtain ⟨x,d,e1,e2⟩:=hat j hj'
   obtain ⟨ad',e',hl⟩:=a4 _ _ x d e1 e2
   cases e'
   rw [hdm] at hl
   exact hl
  ·have hx:=a3 x (List.mem_of_getElem? h1)
   have hj:j < sz:=by rw [← hx];exact (List.getElem?_eq_some_iff.1 h2).1
   have hi:i < es.length:=(List.getElem?_eq_some_iff.1 h1).1
   have hp:i * sz + j < es.length * sz:=by
    have:(i + 1) * sz ≤ es.length * sz:=Nat.mul_le_mul_right _ hi
    simp [Nat.add_mul] at this;omega
   have d1:(i * sz + j) / sz=i:=by rw [Nat.mul_comm,Nat.mul_add_div hs0,Nat.div_eq_of_lt hj,Nat.add_zero]
   have d2:(i * sz + j) % sz=j:=by rw [Nat.mul_comm,Nat.mul_add_mod,Nat.mod_eq_of_lt hj]
   refine ⟨vs i j,?_,a5 i j x d h1 h2⟩
   rw [List.getElem?_map,List.getElem?_range hp]
   simp [d1,d2]
  ·obtain ⟨j,hj⟩:=List.getElem?_of_mem hu
   obtain ⟨hj',rfl⟩:=hget j u hj
   obtain ⟨x,d,e1,e2⟩:=hat j hj'
   exact (a5 _ _ x d e1 e2).rc.one
theorem run_append_roomO (t ty e:TypeId) (i:TypeInfo) (ht:P.underlying t=some (.slice e)) (hi:P.info? e=some i)
  (b f sLen sCap:Nat) (cur:Array Value) (hg:w.heap[b]? = some (.cells cur e (0,0)))
  (a:Addr) (m c:Nat) (news:List Value) (hl:news.length=m * i.size) (hnews:∀ j u,news[j]? = some u → w.cell? (a.add j)=some u) (h1:∀ u ∈ news,u.oneCell'=true)
  (hroom:sLen + m ≤ sCap) (hfit:f + sLen * i.size + news.length ≤ cur.size) :
  (Builtin.append_ #[t,t] ty #[.slice (some ⟨b,f,none⟩) sLen sCap,.slice (some a) m c]).run P w =
   .ok (.slice (some ⟨b,f,none⟩) (sLen + m) sCap) (w.setRow b (cur.toList.take (f + sLen * i.size) ++ news ++ cur.toList.drop (f + sLen * i.size + news.length)).toArray):=by
 have hf:=run_firstCells_some (P:=P) w i.size m a m c news hl hnews
 have hst:=run_storeCells_at P b (f + sLen * i.size) e news 0 cur w hg (by simpa using hfit) h1
 simp only [Nat.add_zero] at hst
 simp [Builtin.append_,run_underlying ht,sizeOf,typeInfo,hi,Builtin.lenOf,hroom,hf,Addr.add_lit,hst]
theorem RD_join {sz bs b f c:Nat} {es ys:List (List Cell)} {l1 l2:List Value} (hc:es.length + ys.length ≤ c) (hb:(es.length + ys.length) * bs ≤ room) (hs1:∀ x,x ∈ es → x.length=sz) (hs2:∀ x,x ∈ ys → x.length=sz)
  (n1:l1.length=es.length * sz) (h1:∀ i j x d,es[i]? = some x → x[j]? = some d → ∃ u,l1[i * sz + j]? = some u ∧ RD g w d u) (h2:∀ i j x d,ys[i]? = some x → x[j]? = some d → ∃ u,l2[i * sz + j]? = some u ∧ RD g w d u)
  (hl:∀ j u,(l1 ++ l2)[j]? = some u → Lies g w ⟨b,f + j,none⟩ u):RD g w (.sl sz bs (es ++ ys)) (.slice (some ⟨b,f,none⟩) (es.length + ys.length) c):=by
 rw [← List.length_append]
 refine RD_flatF (arr:=l1 ++ l2) (by simpa using hc) (by simpa using hb) (fun x hx=>?_) fun i j x d e1 e2=>?_
 ·rcases List.mem_append.1 hx with h | h
  ·exact hs1 x h
  ·exact hs2 x h
 ·by_cases hi:i < es.length
  ·rw [List.getElem?_append_left hi] at e1
   obtain ⟨u,f1,f2⟩:=h1 i j x d e1 e2
   have:(l1 ++ l2)[i * sz + j]? = some u:=by rw [List.getElem?_append_left (List.getElem?_eq_some_iff.1 f1).1];exact f1
   exact ⟨u,this,hl _ _ this,f2⟩
  ·rw [List.getElem?_append_right (by omega)] at e1
   obtain ⟨u,f1,f2⟩:=h2 _ j x d e1 e2
   have:(l1 ++ l2)[i * sz + j]? = some u:=by
    have hle:es.length * sz ≤ i * sz:=Nat.mul_le_mul_right _ (by omega)
    rw [List.getElem?_append_right (by omega),n1,show i * sz + j - es.length * sz=(i - es.length) * sz + j by rw [Nat.sub_mul];omega]
    exact f1
   exact ⟨u,this,hl _ _ this,f2⟩
theorem cell_setRow {b ty:Nat} {arr arr':Array Value} (hg:w.heap[b]? = some (.cells arr ty (0,0))) (ad:Addr) (h:ad.block=b → arr'[ad.off]? = arr[ad.off]?):(w.setRow b arr').cell? ad=w.cell? ad:=by
 by_cases hb:ad.block=b
 ·have h1:=setRow_heap w b arr arr' ty (0,0) hg
  simp only [World.cell?,hb,h1,hg,h hb]
 ·exact cell_setRow_other w b arr' ad hb
theorem shp_setRow {b ty b' ty' m:Nat} {arr arr':Array Value} (hg:w.heap[b]? = some (.cells arr ty (0,0))) (hz:b'=b → arr'.size=arr.size) (h:shp w b' ty' m):shp (w.setRow b arr') b' ty' m:=by
 by_cases hb:b'=b
 ·subst hb
  obtain ⟨arr2,e,hs⟩:=h
  rw [hg] at e;cases e
  exact ⟨arr',setRow_heap w b' arr arr' ty (0,0) hg,by rw [hz rfl];exact hs⟩
 ·exact shp_blk (setRow_other w b _ arr' hb) h
theorem does_app_in (hR:Rel I n σ g a w) {ty sz bs b f c k:Nat} {ob0 O:Obj} {es ys:List (List Cell)} {arr:Array Value} {l news:List Value} {pur:List Nat} (hk:σ.ob k=some ob0) (ha:Active g k ob0) (hb:g.blk k=b) (hkp:k ∈ pur) (hkey:key ∈ pur)
  (hg:w.heap[b]? = some (.cells arr ty (0,0))) (hsize:arr.size=f + c * sz) (hl:l.length=es.length * sz) (hla:∀ (j:Nat) (u:Value),l[j]? = some u → arr[f + j]? = some u) (hs1:∀ x,x ∈ es → x.length=sz) (hs2:∀ x,x ∈ ys → x.length=sz)
  (h1:∀ i j x d,es[i]? = some x → x[j]? = some d → ∃ u,l[i * sz + j]? = some u ∧ RD g w d u) (h2:∀ i j x d,ys[i]? = some x → x[j]? = some d → ∃ u,news[i * sz + j]? = some u ∧ RD g w d u)
  (hst:∀ x,g.st b x → x < f + es.length * sz) (hc:es.length + ys.length ≤ c) (hn:news.length=ys.length * sz) (hroom:(es.length + ys.length) * bs ≤ room)
  (hr:(execOp a.eval o).run P w=.ok (.value (.slice (some ⟨b,f,none⟩) (es.length + ys.length) c)) (w.setRow b (arr.toList.take (f + es.length * sz) ++ news ++ arr.toList.drop (f + es.length * sz + news.length)).toArray))
  (hO:∀ g' w',RowAt f g' w' key ty sz bs (es ++ ys) → ObOK g' w' key O) (he:e.val=.c (.own key (σ.tg key + 1)) ∧ e.pur=pur ∧ e.put=[(key,O)]):Does P I σ g a w o e:=by
 have hblt:b < w.heap.size:=by rw [← hb];exact act_lt (hR.obs k _ hk) ha
 have hloc:I.mine b ∨ I.w0.heap.size ≤ b:=by rw [← hb];exact hR.loc k _ hk ha
 have hle:f + es.length * sz ≤ arr.size:=by rw [hsize];exact Nat.add_le_add_left (Nat.mul_le_mul_right _ (by omega)) _
 have hle2:f + es.length * sz + news.length ≤ arr.size:=by rw [hsize,hn,Nat.add_assoc,← Nat.add_mul];exact Nat.add_le_add_left (Nat.mul_le_mul_right _ hc) _
 let arr':Array Value:=(arr.toList.take (f + es.length * sz) ++ news ++ arr.toList.drop (f + es.length * sz + news.length)).toArray
 have hlow:∀ x,x < f + es.length * sz → arr'[x]? = arr[x]?:=fun x hx=>by
  simp only [arr',List.getElem?_toArray]
  rw [List.append_assoc,List.getElem?_append_left (by simp;omega),List.getElem?_take,if_pos hx]
  simp
 have hall:∀ j u,(l ++ news)[j]? = some u → arr'[f + j]? = some u:=fun j u hj=>by
  by_cases hj1:j < l.length
  ·rw [List.getElem?_append_left hj1] at hj
   rw [hlow (f + j) (by omega)];exact hla j u hj
  ·rw [List.getElem?_append_right (by omega)] at hj
   have:=(List.getElem?_eq_some_iff.1 hj).1
   simp only [arr',List.getElem?_toArray]
   rw [List.append_assoc,List.getElem?_append_right (by simp;omega),List.getElem?_append_left (by simp;omega)]
   rw [← hj]
   congr 1
   simp;omega
 have hg':(w.setRow b arr').heap[b]? = some (.cells arr' ty (0,0)):=setRow_heap w b arr arr' ty (0,0) hg
 let st':Nat → Nat → Prop:=fun b' x=>g.st b' x ∨ (b'=b ∧ x < f + (es.length + ys.length) * sz)
 let g':=g.at key b (.slice (some ⟨b,f,none⟩) (es.length + ys.length) c) st' pur
 have hkp':Kp g w g' (w.setRow b arr'):=⟨fun ad had=>⟨.inl had,cell_setRow hg ad fun hbb=>hlow _ (hst _ (hbb ▸ had))⟩,rfl,fun b' ty' m q _ hf=>shp_setRow hg (fun _=>by simp [arr'];omega) hf⟩
 have hag:∀ k',k' ∉ pur → g'.tg k'=g.tg k' ∧ g'.blk k'=g.blk k' ∧ g'.rv k'=g.rv k':=g.at_agree _ _ _ _ hkey
 have hother:∀ k' o',σ.ob k'=some o' → Active g k' o' → k' ∉ pur → g.blk k' ≠ b:=fun k' o' h ha' hn' hbb=>by
  have:=hR.sep k' k o' _ h hk ha' ha (by rw [hbb,hb])
  subst this
  exact hn' hkp
 have hsz':arr'.size=f + c * sz:=by
  simp only [arr',List.size_toArray,List.length_append,List.length_take,List.length_drop,Array.length_toList]
  omega
 obtain ⟨e1,e2,e3⟩:=he
 refine ⟨_,g',_,.inl hr,?_,?_⟩
 ·rw [e2,e3]
  have one:∀ k' q,[(key,O)].lookup k'=some q → k'=key ∧ q=O:=fun k' q h=>by
   simp only [List.lookup_cons] at h
   split at h
   ·rename_i hkk;cases h;exact ⟨by simpa using hkk,rfl⟩
   ·simp at h
  have hblk:g'.blk key=b:=by simp [g',Gh.at]
  refine
   {kp:=hkp',agree:=hag,anew:=g.at_anew _ _ _ _,puts:=fun k' q h=>?_,keep:=fun k' q h ha' _ hn'=>⟨setRow_other w b _ arr' (hother k' q h ha' hn'),fun x hx=>?_⟩,sep:=fun k' q h _ k2 q2 h2' ha2 _ hn2=>?_,seps:=fun k1 k2 q1 q2 h1' h2' _ _ _=>?_,loc:=fun k' q h _=>?_,
    wok:=fun b' x h=>?_,os:=rfl,tape:=rfl,out:=rfl,grow:=by rw [setRow_size];omega,frame:=fun b' hb' hm=>?_ }
  ·obtain ⟨rfl,rfl⟩:=one k' q h
   have hrv:g'.rv k'=.slice (some ⟨b,f,none⟩) (es.length + ys.length) c:=by simp [g',Gh.at]
   refine hO _ _ ⟨?_,fun q1 n1 c1 hq hlt=>?_⟩
   ·rw [hrv]
    refine RD_join (l1:=l) (l2:=news) hc hroom hs1 hs2 hl (fun i j x d p1 p2=>?_) (fun i j x d p1 p2=>?_) fun j u hj=>⟨.inr ⟨rfl,?_⟩,?_⟩
    ·obtain ⟨u,f1,f2⟩:=h1 i j x d p1 p2;exact ⟨u,f1,f2.mono hkp'⟩
    ·obtain ⟨u,f1,f2⟩:=h2 i j x d p1 p2;exact ⟨u,f1,f2.mono hkp'⟩
    ·have:=(List.getElem?_eq_some_iff.1 hj).1
     simp [hl,hn] at this
     show f + j < _
     rw [Nat.add_mul];omega
    ·rw [cell_blk hg'];exact hall j u hj
   ·rw [hrv] at hq
    injection hq with hq1 hq2 hq3
    subst hq1;subst hq2;subst hq3
    rw [hblk]
    exact ⟨rfl,⟨arr',hg',hsz'⟩,fun x hx=>by
     rcases hx with hx | hx
     ·have:=hst x hx;rw [Nat.add_mul];omega
     ·exact hx.2⟩
  ·rcases hx with hx | hx
   ·exact hx
   ·exact absurd hx.1 (hother k' q h ha' hn')
  ·obtain ⟨rfl,rfl⟩:=one k' q h
   rw [hblk];exact hother k2 q2 h2' ha2 hn2
  ·exact (one k1 q1 h1').1.trans (one k2 q2 h2').1.symm
  ·obtain ⟨rfl,rfl⟩:=one k' q h
   rw [hblk];exact hloc
  ·rw [setRow_size]
   rcases h with h | h
   ·exact hR.wok _ _ h
   ·rw [h.1];exact hblt
  ·have hne:b' ≠ b:=fun hbb=>by
    rcases hloc with h | h
    ·exact hm (hbb ▸ h)
    ·omega
   exact ⟨setRow_other w b _ arr' hne,fun x=>⟨fun h=>h.resolve_right fun h=>hne h.1,.inl⟩⟩
 ·rw [e1]
  obtain ⟨k1,k2,k3⟩:=g.at_key key b (.slice (some ⟨b,f,none⟩) (es.length + ys.length) c) st' hkey
  exact fun _=>⟨rfl,by show _ ≤ g'.tg key;rw [k1,hR.tags];exact Nat.le_refl _,fun _=>⟨k3.symm,_,_,_,rfl⟩⟩
theorem does_app_new (hR:Rel I n σ g a w) {ty sz bs c:Nat} {O:Obj} {es ys:List (List Cell)} {l news rest:List Value} {pur:List Nat} (hkey:key ∈ pur)
  (hl:l.length=es.length * sz) (hs1:∀ x,x ∈ es → x.length=sz) (hs2:∀ x,x ∈ ys → x.length=sz)
  (h1:∀ i j x d,es[i]? = some x → x[j]? = some d → ∃ u,l[i * sz + j]? = some u ∧ RD g w d u) (h2:∀ i j x d,ys[i]? = some x → x[j]? = some d → ∃ u,news[i * sz + j]? = some u ∧ RD g w d u)
  (hc:es.length + ys.length ≤ c) (hn:news.length=ys.length * sz) (hrest:rest.length=(c - (es.length + ys.length)) * sz) (hroom:(es.length + ys.length) * bs ≤ room)
  (hr:(execOp a.eval o).run P w=.ok (.value (.slice (some ⟨w.heap.size,0,none⟩) (es.length + ys.length) c)) (w.drew.alloc (.cells (l ++ news ++ rest).toArray ty)))
  (hO:∀ g' w',RowAt 0 g' w' key ty sz bs (es ++ ys) → ObOK g' w' key O) (he:e.val=.c (.own key (σ.tg key + 1)) ∧ e.pur=pur ∧ e.put=[(key,O)]):Does P I σ g a w o e:=by
 have hR':Rel I n σ g a w.drew:=hR.drew (w.drawn + 1)
 let S:Nat → Prop:=fun x=>x < (es.length + ys.length) * sz
 let st':Nat → Nat → Prop:=fun b' x=>g.st b' x ∨ (b'=w.heap.size ∧ S x)
 let g':=g.at key w.heap.size (.slice (some ⟨w.heap.size,0,none⟩) (es.length + ys.length) c) st' pur
 have hkp':Kp g w g' (w.drew.alloc (.cells (l ++ news ++ rest).toArray ty)):=⟨fun ad had=>(Kp_alloc (w:=w.drew) (g':=g') _ hR.wok fun b q h=>Or.inl h).keep ad had,rfl,fun b ty n q h hf=>(Kp_alloc (w:=w.drew) (g':=g') _ hR.wok fun b q h=>Or.inl h).kf b ty n q h hf⟩
 have hg':(w.drew.alloc (.cells (l ++ news ++ rest).toArray ty)).heap[w.heap.size]? = some (.cells (l ++ news ++ rest).toArray ty (0,0)):=heap_new (w:=w.drew) _
 obtain ⟨e1,e2,e3⟩:=he
 have hrv:g'.rv key=.slice (some ⟨w.heap.size,0,none⟩) (es.length + ys.length) c:=by simp [g',Gh.at]
 have hblk:g'.blk key=w.heap.size:=by simp [g',Gh.at]
 refine ⟨_,g',_,.inl hr,?_,?_⟩
 ·rw [e2,e3]
  refine Step.of_drew (Step.alloc (key:=key) hR' _ (S:=S) (fun b q=>Iff.rfl) (g.at_agree _ _ _ _ hkey) (g.at_anew _ _ _ _) (.inr ⟨_,rfl,hO _ _ ⟨?_,fun q1 n1 c1 hq hlt=>?_⟩,fun _=>hblk⟩))
  ·rw [hrv]
   refine RD_join (l1:=l) (l2:=news) hc hroom hs1 hs2 hl (fun i j x d p1 p2=>?_) (fun i j x d p1 p2=>?_) fun j u hj=>⟨.inr ⟨rfl,?_⟩,?_⟩
   ·obtain ⟨u,f1,f2⟩:=h1 i j x d p1 p2;exact ⟨u,f1,f2.mono hkp'⟩
   ·obtain ⟨u,f1,f2⟩:=h2 i j x d p1 p2;exact ⟨u,f1,f2.mono hkp'⟩
   ·have:=(List.getElem?_eq_some_iff.1 hj).1
    simp [hl,hn] at this
    show 0 + j < _
    rw [Nat.add_mul,Nat.zero_add];exact this
   ·rw [cell_blk hg',Nat.zero_add,List.getElem?_toArray,List.getElem?_append_left (List.getElem?_eq_some_iff.1 hj).1]
    exact hj
  ·rw [hrv] at hq
   injection hq with hq1 hq2 hq3
   subst hq1;subst hq2;subst hq3
   rw [hblk]
   refine ⟨rfl,⟨_,hg',?_⟩,fun x hx=>?_⟩
   ·simp only [List.size_toArray,List.length_append,hl,hn,hrest,← Nat.add_mul,Nat.zero_add]
    congr 1;omega
   ·rcases hx with hx | hx
    ·exact absurd (hR.wok _ _ hx) (Nat.lt_irrefl _)
    ·rw [Nat.zero_add];exact hx.2
 ·rw [e1]
  obtain ⟨k1,k2,k3⟩:=g.at_key key w.heap.size (.slice (some ⟨w.heap.size,0,none⟩) (es.length + ys.length) c) st' hkey
  exact fun _=>⟨rfl,by show _ ≤ g'.tg key;rw [k1,hR.tags];exact Nat.le_refl _,fun _=>⟨k3.symm,_,_,_,rfl⟩⟩
theorem does_app_zero (hR:Rel I n σ g a w) {ty sz bs f:Nat} {O:Obj} {es:List (List Cell)} {q:Option Addr} {pur:List Nat} (hkey:key ∈ pur) (hv:RD g w (.sl sz bs es) (.slice q es.length es.length))
  (hr:(execOp a.eval o).run P w=.ok (.value (.slice q es.length es.length)) w) (hO:∀ g' w',RowAt f g' w' key ty sz bs es → ObOK g' w' key O) (hA:∀ g',Active g' key O → ∃ a n c,g'.rv key=.slice a n c ∧ n < c) (he:e.val=.c (.own key (σ.tg key + 1)) ∧ e.pur=pur ∧ e.put=[(key,O)]):Does P I σ g a w o e:=by
 let g':=g.at key 0 (.slice q es.length es.length) g.st pur
 have hkp':Kp g w g' w:=⟨fun ad h=>⟨h,rfl⟩,rfl,fun _ _ _ _ _ h=>h⟩
 obtain ⟨e1,e2,e3⟩:=he
 have hrv:g'.rv key=.slice q es.length es.length:=by simp [g',Gh.at]
 have one:∀ k' p,[(key,O)].lookup k'=some p → k'=key ∧ p=O:=fun k' p h=>by
  simp only [List.lookup_cons] at h
  split at h
  ·rename_i hkk;cases h;exact ⟨by simpa using hkk,rfl⟩
  ·simp at h
 have hno:∀ p,p=O → ¬ Active g' key p:=fun p hp ha=>by
  subst hp
  obtain ⟨q1,n1,c1,h1,h2⟩:=hA _ ha
  rw [hrv] at h1
  injection h1 with _ h3 h4
  omega
 refine ⟨_,g',_,.inl hr,?_,?_⟩
 ·rw [e2,e3]
  refine
   {kp:=hkp',agree:=g.at_agree _ _ _ _ hkey,anew:=g.at_anew _ _ _ _,puts:=fun k' p h=>?_,keep:=fun k' p h _ _ _=>⟨rfl,fun _ h=>h⟩,sep:=fun k' p h ha=>?_,seps:=fun k1 k2 q1 q2 h1' h2' _ _ _=>?_,loc:=fun k' p h ha=>?_,
    wok:=hR.wok,os:=rfl,tape:=rfl,out:=rfl,grow:=Nat.le_refl _,frame:=fun b' _ _=>⟨rfl,fun _=>Iff.rfl⟩ }
  ·obtain ⟨rfl,rfl⟩:=one k' p h
   refine hO _ _ ⟨by rw [hrv];exact hv.mono hkp',fun q1 n1 c1 h1 h2=>?_⟩
   rw [hrv] at h1
   injection h1 with _ h3 h4
   omega
  ·obtain ⟨rfl,hp⟩:=one k' p h
   exact absurd ha (hno p hp)
  ·exact (one k1 q1 h1').1.trans (one k2 q2 h2').1.symm
  ·obtain ⟨rfl,hp⟩:=one k' p h
   exact absurd ha (hno p hp)
 ·rw [e1]
  obtain ⟨k1,k2,k3⟩:=g.at_key key 0 (.slice q es.length es.length) g.st hkey
  exact fun _=>⟨rfl,by show _ ≤ g'.tg key;rw [k1,hR.tags];exact Nat.le_refl _,fun _=>⟨k3.symm,_,_,_,rfl⟩⟩
end Go.Abs

namespace Go.Abs
variable {P:Program} {I:Init} {n:Nat} {σ:St} {g g':Gh} {a:Act} {w w':World} {o:Oper} {e:Eff} {key:Nat}
theorem RD_bs {sz bx bs:Nat} {es:List (List Cell)} {v:Value} (h:RD g w (.sl sz bx es) v) (hb:es.length * bs ≤ room):RD g w (.sl sz bs es) v:=by
 cases h with
 | sl _ _ _ q c vs a1 a2 a3 a4 a5=>exact .sl sz bs es q c vs a1 hb a3 a4 a5
theorem info_of {t sz:Nat} (h:szT P t=some sz):∃ i,P.info? t=some i ∧ i.size=sz:=by
 unfold szT at h
 obtain ⟨i,h1,h2⟩:=Option.map_eq_some_iff.1 h
 exact ⟨i,h1,h2⟩
theorem zero_of {t:Nat} {zs:List Cell} {i:TypeInfo} (h:zeroOK P t zs=true) (hi:P.info? t=some i):∃ z,i.zero=some z ∧ zcs z.cells.toList zs=true:=by
 unfold zeroOK at h
 rw [hi] at h
 simp only at h
 split at h
 ·rename_i z hz;exact ⟨z,hz,h⟩
 ·cases h
theorem run_app_zero {t ty sz c c' o':Nat} {m:Nat} {q q':Option Addr} (ht:elemT P t=some ty) (hsz:szT P ty=some sz) (hle:m ≤ c) :
  (Builtin.append_ #[t,t] o' #[.slice q m c,.slice q' 0 c']).run P w=.ok (.slice q m c) w:=by
 obtain ⟨i,hi,rfl⟩:=info_of hsz
 cases q <;> cases q' <;> simp [Builtin.append_,run_underlying (elemT_spec ht),sizeOf,typeInfo,hi,Builtin.lenOf,Builtin.firstCells,loadCells,loadCellsFrom,hle,storeCells]
theorem s_app (hR:Rel I n σ g a w) {x1 x2:Operand} {y1 y2:SArg} {t ty sz bs:Nat} (ho:o.op=.call { callee:=.builtin .append,args:=#[x1,x2],argTypes:=#[t,t] }) (h1:okA x1 y1=true) (h2:okA x2 y2=true)
  (ht:elemT P t=some ty) (hsz:szT P ty=some sz) (hs0:0 < sz) (hbs:bsT P ty=some bs) (hb0:0 < bs) (hz:∃ i z,P.info? ty=some i ∧ i.zero=some z ∧ z.cells.size=sz)
  (he:ev1 key σ.ev σ (.app ty sz bs y1 y2)=some e) (hc:cond true σ.ev σ (.app ty sz bs y1 y2)):Does P I σ g a w o e:=by
 have v1:=opd hR h1 hc.1
 have v2:=opd hR h2 hc.2.1
 have hc3:=hc.2.2 rfl
 obtain ⟨i,hi,hisz⟩:=info_of hsz
 obtain ⟨z,hz1,hzc⟩:∃ z,i.zero=some z ∧ z.cells.size=sz:=by
  obtain ⟨i',z,q1,q2,q3⟩:=hz
  rw [hi] at q1;cases q1;exact ⟨z,q2,q3⟩
 have hib:i.bytes=bs:=by
  unfold bsT at hbs
  obtain ⟨i',q1,q2⟩:=Option.map_eq_some_iff.1 hbs
  rw [hi] at q1;cases q1;exact q2
 have hop:∀ v u r w',a.eval x1=v → a.eval x2=u → (Builtin.append_ #[t,t] o.type #[v,u]).run P w=.ok r w' → (execOp a.eval o).run P w=.ok (.value r) w':=fun v u r w' e1 e2 hr=>by
  simp [execOp,ho,resolve,invoke,builtin,e1,e2,hr]
 simp only [ev1] at he
 split at he
 ·rename_i sy by_ ys ey
  have hy:=elems_spec hR v2 ey
  obtain ⟨hysz,hc4⟩:=hc3 _ ey
  simp only at hysz hc4 hy
  -- the common end
  have main:∀ (f:Nat) (O:List (List Cell) → Obj) (es:List (List Cell)) (v:Value) (c:Nat) (q:Option Addr) (l:List Value) (pur:List Nat),a.eval x1=v → v=.slice q es.length c → es.length ≤ c → (∀ x,x ∈ es → x.length=sz) → l.length=es.length * sz →
    (0 < es.length → ∃ ad,q=some ad ∧ ∀ (j:Nat) u,l[j]? = some u → w.cell? (ad.add j)=some u) → (q=none → c=0) → (∀ i j x d,es[i]? = some x → x[j]? = some d → ∃ u,l[i * sz + j]? = some u ∧ RD g w d u) → (es.length + ys.length) * bs ≤ room → key ∈ pur →
    (es.length < c → ∃ k ob0 arr,σ.ob k=some ob0 ∧ Active g k ob0 ∧ k ∈ pur ∧ q=some ⟨g.blk k,f,none⟩ ∧ w.heap[g.blk k]? = some (.cells arr ty (0,0)) ∧ arr.size=f + c * sz ∧ (∀ (j:Nat) u,l[j]? = some u → arr[f + j]? = some u) ∧ ∀ x,g.st (g.blk k) x → x < f + es.length * sz) →
    (es.length=c → ys=[] → (RD g w (.sl sz bs es) v ∨ ∃ k ob0 arr,σ.ob k=some ob0 ∧ Active g k ob0 ∧ k ∈ pur ∧ q=some ⟨g.blk k,f,none⟩ ∧ w.heap[g.blk k]? = some (.cells arr ty (0,0)) ∧ arr.size=f + c * sz ∧ (∀ (j:Nat) u,l[j]? = some u → arr[f + j]? = some u) ∧ ∀ x,g.st (g.blk k) x → x < f + es.length * sz)) →
    (∀ f',f'=0 ∨ f'=f → ∀ g' w' es',RowAt f' g' w' key ty sz bs es' → ObOK g' w' key (O es')) → (∀ g' es',Active g' key (O es') → ∃ a n c,g'.rv key=.slice a n c ∧ n < c) →
    e=⟨.c (.own key (σ.tg key + 1)),pur,[(key,O (es ++ ys))],e.rd⟩ → Does P I σ g a w o e:=by
   intro f O es v c q l pur ev hv hle hsz1 hl hcells hq0 heach hroom hkey hown hex hO hA hee
   have hee':e.val=.c (.own key (σ.tg key + 1)) ∧ e.pur=pur ∧ e.put=[(key,O (es ++ ys))]:=by rw [hee];exact ⟨rfl,rfl,rfl⟩
   have h63:es.length + ys.length ≤ 140737488355328:=Nat.le_trans (Nat.le_mul_of_pos_right _ hb0) hroom
   -- y,in a list
   have hylist:∃ (qy:Option Addr) (cy:Nat) (ly:List Value),a.eval x2=.slice qy ys.length cy ∧ (∀ x,x ∈ ys → x.length=sz) ∧ ly.length=ys.length * sz ∧ (0 < ys.length → ∃ ad,qy=some ad ∧ ∀ (j:Nat) u,ly[j]? = some u → w.cell? (ad.add j)=some u) ∧
     (∀ i j x d,ys[i]? = some x → x[j]? = some d → ∃ u,ly[i * sz + j]? = some u ∧ RD g w d u) ∧ ∀ u,u ∈ ly → u.oneCell'=true:=by
    rcases hysz with rfl | rfl
    ·obtain ⟨qy,cy,ly,a1,_,_,a4,a5,a6,a7,a8⟩:=RD_list hy hs0
     exact ⟨qy,cy,ly,a1,a4,a5,fun hp=>by obtain ⟨ad,b1,b2⟩:=a6 hp;exact ⟨ad,b1,fun j u hj=>(b2 j u hj).2⟩,a7,a8⟩
    ·obtain ⟨qy,cy,a1,_⟩:=RD_len hy
     exact ⟨qy,cy,[],a1,by simp,by simp,by simp,by simp,by simp⟩
   obtain ⟨qy,cy,ly,y1',y2',y3',y4',y5',y6'⟩:=hylist
   have hin:∀ k ob0 arr,σ.ob k=some ob0 → Active g k ob0 → k ∈ pur → q=some ⟨g.blk k,f,none⟩ → w.heap[g.blk k]? = some (.cells arr ty (0,0)) → arr.size=f + c * sz → (∀ (j:Nat) u,l[j]? = some u → arr[f + j]? = some u) → (∀ x,g.st (g.blk k) x → x < f + es.length * sz) → es.length + ys.length ≤ c → Does P I σ g a w o e:=by
    intro k ob0 arr p1 p2 p3 p4 p5 p6 p7 p8 hfit
    refine does_app_in hR p1 p2 rfl p3 hkey p5 p6 hl p7 hsz1 y2' heach y5' p8 hfit y3' hroom (hop v _ _ _ ev y1' ?_) (fun g' w' h=>hO f (.inr rfl) g' w' _ h) hee'
    rw [hv,p4]
    by_cases hm:ys.length=0
    ·have hly:ly=[]:=List.eq_nil_of_length_eq_zero (by rw [y3',hm];simp)
     subst hly
     rw [hm,run_app_zero ht hsz hle]
     simp only [Nat.add_zero,List.append_nil,List.length_nil,List.take_append_drop,Array.toArray_toList]
     rw [setRow_self w _ arr ty (0,0) p5]
    ·obtain ⟨ad,rfl,hcy⟩:=y4' (by omega)
     have:=run_append_roomO (P:=P) (w:=w) t o.type ty i (elemT_spec ht) hi (g.blk k) f es.length c arr p5 ad ys.length cy ly (by rw [hisz];exact y3') hcy y6' hfit (by rw [hisz,y3',p6,Nat.add_assoc,← Nat.add_mul];exact Nat.add_le_add_left (Nat.mul_le_mul_right _ hfit) _)
     rw [hisz] at this
     exact this
   by_cases hfit:es.length + ys.length ≤ c
   ·by_cases hlt:es.length < c
    ·obtain ⟨k,ob0,arr,p1,p2,p3,p4,p5,p6,p7,p8⟩:=hown hlt
     exact hin k ob0 arr p1 p2 p3 p4 p5 p6 p7 p8 hfit
    ·have hcc:es.length=c:=by omega
     have hys:ys=[]:=List.eq_nil_of_length_eq_zero (by omega)
     rcases hex hcc hys with hrd | ⟨k,ob0,arr,p1,p2,p3,p4,p5,p6,p7,p8⟩
     ·subst hys
      refine does_app_zero hR (ty:=ty) (sz:=sz) (bs:=bs) (es:=es) (q:=q) hkey (by rw [← hcc] at hv;rw [← hv];exact hrd) (hop v _ _ _ ev y1' ?_) (fun g' w' h=>hO 0 (.inl rfl) g' w' _ h) (fun g'=>hA g' _) (by rw [List.append_nil] at hee';exact hee')
      rw [hv,← hcc,List.length_nil,run_app_zero ht hsz (Nat.le_refl _)]
     ·exact hin k ob0 arr p1 p2 p3 p4 p5 p6 p7 p8 hfit
   ·have hm:0 < ys.length:=by omega
    obtain ⟨ad,rfl,hcy⟩:=y4' hm
    have hfits:Builtin.nextslicecap (es.length + ys.length) c * i.bytes ≤ 281474976710656:=growslice_fits (by omega) (by rw [hib];exact hroom)
    have hge:=grownCap_ge w (es.length + ys.length) c ty
    refine does_app_new hR hkey hl hsz1 y2' heach y5' hge y3' (rest:=(Builtin.zeroCells z.cells (grownCap w (es.length + ys.length) c ty - (es.length + ys.length))).toList) (by simp [Builtin.zeroCells,hzc]) hroom (hop v _ _ _ ev y1' ?_) (fun g' w' h=>hO 0 (.inl rfl) g' w' _ h) hee'
    rw [hv]
    cases q with
    | none=>
     have hc0:=hq0 rfl
     subst hc0
     have he0:es.length=0:=by omega
     have hl0:l=[]:=List.eq_nil_of_length_eq_zero (by rw [hl,he0];simp)
     subst hl0
     rw [he0]
     have:=run_append_nil (P:=P) w t o.type ty i z (elemT_spec ht) hi hz1 ad ys.length cy ly (by rw [hisz];exact y3') hcy hm (by omega) (by rw [hib];rw [he0,Nat.zero_add] at hroom;unfold room at hroom;omega)
     rw [this]
     simp
     congr 2
     apply Array.ext'
     simp
    | some qa=>
     have hcl:∀ (j:Nat) u,l[j]? = some u → w.cell? (qa.add j)=some u:=fun j u hj=>by
      have hlt:=(List.getElem?_eq_some_iff.1 hj).1
      have:0 < es.length:=by
       rcases Nat.eq_zero_or_pos es.length with h0 | h0
       ·rw [hl,h0] at hlt;simp at hlt
       ·exact h0
      obtain ⟨ad',e1,e2⟩:=hcells this
      cases e1
      exact e2 j u hj
     have:=run_append_grow (P:=P) w t o.type ty i z (elemT_spec ht) hi hz1 qa es.length c l (by rw [hisz];exact hl) hcl ad ys.length cy ly (by rw [hisz];exact y3') hcy (by omega) (by omega) hfits
     rw [this]
     simp
     congr 2
     apply Array.ext'
     simp
  split at he
  ·rename_i sx bx es ex
   cases he
   rw [ex] at v1 hc4
   simp only at hc4
   obtain ⟨hesz,hroom⟩:=hc4
   obtain ⟨hrd,qa,hqa⟩:=v1 (by simp)
   have hrd':RD g w (.sl sz bs es) (a.eval x1):=by
    rcases hesz with rfl | rfl
    ·exact RD_bs hrd (Nat.le_trans (Nat.mul_le_mul_right _ (Nat.le_add_right _ _)) hroom)
    ·rw [hqa];exact .sl sz bs [] qa _ (fun _ _=>undef) (Nat.le_refl _) (by simp [room]) (by simp) (by simp) (by simp)
   obtain ⟨q,c,l,a1,a2,_,a4,a5,a6,a7,a8⟩:=RD_list hrd' hs0
   have hcq:q=qa ∧ c=es.length:=by rw [a1] at hqa;injection hqa with h1 h2 h3;exact ⟨h1,h3⟩
   obtain ⟨rfl,rfl⟩:=hcq
   refine main 0 (.row ty sz bs) es (a.eval x1) es.length q l [key] rfl a1 (Nat.le_refl _) a4 a5 (fun hp=>by obtain ⟨ad,b1,b2⟩:=a6 hp;exact ⟨ad,b1,fun j u hj=>(b2 j u hj).2⟩) (fun hq=>?_) a7 hroom (by simp) (fun h=>?_) (fun _ _=>.inl hrd') (fun f' hf' g' w' es' h=>by rcases hf' with rfl | rfl <;> exact h.row) (fun _ _ h=>h) rfl
   ·rcases Nat.eq_zero_or_pos es.length with h0 | h0
    ·exact h0
    ·obtain ⟨ad,b1,_⟩:=a6 h0;rw [hq] at b1;cases b1
   ·exact absurd h (Nat.lt_irrefl _)
  ·rename_i k t1 ex
   rw [ex] at v1 hc4
   simp only at hc4
   split at he
   case isFalse=>cases he
   rename_i htg
   have e1:=(v1 (by simp)).2.2 (by rw [hR.tags];exact htg)
   split at he
   ·rename_i ty' sx bx es eo
    simp only [eo] at hc4
    obtain ⟨rfl,hroom⟩:=hc4
    split at he
    ·rename_i hty
     subst hty
     cases he
     have hob:=RowAt.of (hR.obs k _ eo)
     have hrd:=hob.1
     obtain ⟨q,c,l,a1,a2,_,a4,a5,a6,a7,a8⟩:=RD_list hrd hs0
     have hown:es.length < c → ∃ k' ob0 arr,σ.ob k'=some ob0 ∧ Active g k' ob0 ∧ k' ∈ [key,k] ∧ q=some ⟨g.blk k',0,none⟩ ∧ w.heap[g.blk k']? = some (.cells arr ty' (0,0)) ∧ arr.size=0 + c * sx ∧ (∀ (j:Nat) u,l[j]? = some u → arr[0 + j]? = some u) ∧ ∀ x,g.st (g.blk k') x → x < 0 + es.length * sx:=fun hlt=>by
      obtain ⟨b1,⟨arr,b2,b3⟩,b4⟩:=hob.2 q es.length c a1 hlt
      refine ⟨k,_,arr,eo,⟨q,_,c,a1,hlt⟩,by simp,b1,b2,b3,fun j u hj=>?_,b4⟩
      have hlt':=(List.getElem?_eq_some_iff.1 hj).1
      have:0 < es.length:=by
       rcases Nat.eq_zero_or_pos es.length with h0 | h0
       ·rw [a5,h0] at hlt';simp at hlt'
       ·exact h0
      obtain ⟨ad,c1,c2⟩:=a6 this
      rw [b1] at c1;cases c1
      have:=(c2 j u hj).2
      rw [add_blk,cell_blk b2] at this
      exact this
     refine main 0 (.row ty' sx bs) es (a.eval x1) c q l [key,k] rfl (e1.1.trans a1) a2 a4 a5 (fun hp=>by obtain ⟨ad,b1,b2⟩:=a6 hp;exact ⟨ad,b1,fun j u hj=>(b2 j u hj).2⟩) (fun hq=>?_) a7 hroom (by simp) (fun h=>?_) (fun hcc hys=>?_) (fun f' hf' g' w' es' h=>by rcases hf' with rfl | rfl <;> exact h.row) (fun _ _ h=>h) rfl
     ·rcases Nat.lt_or_ge es.length c with h0 | h0
      ·obtain ⟨b1,_⟩:=hob.2 q es.length c a1 h0;rw [hq] at b1;cases b1
      ·rcases Nat.eq_zero_or_pos es.length with h1 | h1
       ·omega
       ·obtain ⟨ad,b1,_⟩:=a6 h1;rw [hq] at b1;cases b1
     ·obtain ⟨k',ob0,arr,p1,p2,p3,p4,p5,p6,p7,p8⟩:=hown h
      exact ⟨k',ob0,arr,p1,p2,p3,p4,p5,p6,p7,p8⟩
     ·refine .inl ?_
      rw [e1.1]
      exact RD_bs hrd (Nat.le_trans (Nat.mul_le_mul_right _ (Nat.le_add_right _ _)) hroom)
    ·cases he
   ·rename_i ty' sx bx es eo
    simp only [eo] at hc4
    obtain ⟨rfl,hroom⟩:=hc4
    split at he
    ·rename_i hty
     subst hty
     cases he
     obtain ⟨arr,c,f1,f2,f3,f4,f5,f6,f7,f8⟩:=hR.obs k _ eo
     have hlen:es.length * sx ≤ arr.size:=by rw [f4];exact Nat.mul_le_mul_right _ (Nat.le_of_eq f2)
     have hl:(arr.toList.take (es.length * sx)).length=es.length * sx:=by simp;omega
     have hla:∀ (j:Nat) u,(arr.toList.take (es.length * sx))[j]? = some u → arr[j]? = some u:=fun j u hj=>by
      rw [List.getElem?_take] at hj
      split at hj
      ·simpa using hj
      ·cases hj
     have howner:∃ k' ob0 arr',σ.ob k'=some ob0 ∧ Active g k' ob0 ∧ k' ∈ [key,k] ∧ (some ⟨g.blk k,0,none⟩:Option Addr)=some ⟨g.blk k',0,none⟩ ∧ w.heap[g.blk k']? = some (.cells arr' ty' (0,0)) ∧ arr'.size=0 + c * sx ∧ (∀ (j:Nat) u,(arr.toList.take (es.length * sx))[j]? = some u → arr'[0 + j]? = some u) ∧ ∀ x,g.st (g.blk k') x → x < 0 + es.length * sx:=
      ⟨k,_,arr,eo,trivial,by simp,rfl,f3,by rw [Nat.zero_add];exact f4,fun j u hj=>by rw [Nat.zero_add];exact hla j u hj,fun x hx=>absurd hx (f8 x)⟩
     refine main 0 (.row ty' sx bs) es (a.eval x1) c (some ⟨g.blk k,0,none⟩) _ [key,k] rfl (e1.1.trans f1) (Nat.le_of_eq f2) f6 hl (fun _=>⟨_,rfl,fun j u hj=>?_⟩) (fun hq=>by cases hq) (fun i j x d p1 p2=>?_) hroom (by simp) (fun _=>howner) (fun _ _=>.inr howner) (fun f' hf' g' w' es' h=>by rcases hf' with rfl | rfl <;> exact h.row) (fun _ _ h=>h) rfl
     ·rw [add_blk,Nat.zero_add,cell_blk f3];exact hla j u hj
     ·obtain ⟨u,q1,q2⟩:=f7 i j x d p1 p2
      refine ⟨u,?_,q2⟩
      have hx:=f6 x (List.mem_of_getElem? p1)
      have hj:=(List.getElem?_eq_some_iff.1 p2).1
      have hi':=(List.getElem?_eq_some_iff.1 p1).1
      have:(i + 1) * sx ≤ es.length * sx:=Nat.mul_le_mul_right _ hi'
      rw [Nat.add_mul] at this
      rw [List.getElem?_take,if_pos (by omega)]
      simpa using q1
    ·cases he
   ·rename_i ty' sx bx es eo
    simp only [eo] at hc4
    obtain ⟨rfl,hroom⟩:=hc4
    split at he
    ·rename_i hty
     subst hty
     cases he
     obtain ⟨f,hob⟩:=hR.obs k _ eo
     have hrd:=hob.1
     obtain ⟨q,c,l,a1,a2,_,a4,a5,a6,a7,a8⟩:=RD_list hrd hs0
     have hown:es.length < c → ∃ k' ob0 arr,σ.ob k'=some ob0 ∧ Active g k' ob0 ∧ k' ∈ [key,k] ∧ q=some ⟨g.blk k',f,none⟩ ∧ w.heap[g.blk k']? = some (.cells arr ty' (0,0)) ∧ arr.size=f + c * sx ∧ (∀ (j:Nat) u,l[j]? = some u → arr[f + j]? = some u) ∧ ∀ x,g.st (g.blk k') x → x < f + es.length * sx:=fun hlt=>by
      obtain ⟨b1,⟨arr,b2,b3⟩,b4⟩:=hob.2 q es.length c a1 hlt
      refine ⟨k,_,arr,eo,⟨q,_,c,a1,hlt⟩,by simp,b1,b2,b3,fun j u hj=>?_,b4⟩
      have hlt':=(List.getElem?_eq_some_iff.1 hj).1
      have:0 < es.length:=by
       rcases Nat.eq_zero_or_pos es.length with h0 | h0
       ·rw [a5,h0] at hlt';simp at hlt'
       ·exact h0
      obtain ⟨ad,c1,c2⟩:=a6 this
      rw [b1] at c1;cases c1
      have:=(c2 j u hj).2
      rw [add_blk,cell_blk b2] at this
      exact this
     refine main f (.cut ty' sx bs) es (a.eval x1) c q l [key,k] rfl (e1.1.trans a1) a2 a4 a5 (fun hp=>by obtain ⟨ad,b1,b2⟩:=a6 hp;exact ⟨ad,b1,fun j u hj=>(b2 j u hj).2⟩) (fun hq=>?_) a7 hroom (by simp) (fun h=>?_) (fun hcc hys=>?_) (fun f' _ g' w' es' h=>⟨f',h⟩) (fun _ _ h=>h) rfl
     ·rcases Nat.lt_or_ge es.length c with h0 | h0
      ·obtain ⟨b1,_⟩:=hob.2 q es.length c a1 h0;rw [hq] at b1;cases b1
      ·rcases Nat.eq_zero_or_pos es.length with h1 | h1
       ·omega
       ·obtain ⟨ad,b1,_⟩:=a6 h1;rw [hq] at b1;cases b1
     ·obtain ⟨k',ob0,arr,p1,p2,p3,p4,p5,p6,p7,p8⟩:=hown h
      exact ⟨k',ob0,arr,p1,p2,p3,p4,p5,p6,p7,p8⟩
     ·refine .inl ?_
      rw [e1.1]
      exact RD_bs hrd (Nat.le_trans (Nat.mul_le_mul_right _ (Nat.le_add_right _ _)) hroom)
    ·cases he
   ·cases he
  ·cases he
 ·cases he
theorem s_appm (hR:Rel I n σ g a w) {x1 x2:Operand} {y1 y2:SArg} {t ty sz bs:Nat} (ho:o.op=.call { callee:=.builtin .append,args:=#[x1,x2],argTypes:=#[t,t] }) (h1:okA x1 y1=true) (h2:okA x2 y2=true)
  (ht:elemT P t=some ty) (hsz:szT P ty=some sz) (hs0:0 < sz) (hbs:bsT P ty=some bs) (hb0:0 < bs) (hz:∃ i z,P.info? ty=some i ∧ i.zero=some z ∧ z.cells.size=sz)
  (he:ev1 key σ.ev σ (.appm ty sz bs y1 y2)=some e) (hc:cond true σ.ev σ (.appm ty sz bs y1 y2)):Does P I σ g a w o e:=by
 simp [ev1,appmE] at he
theorem s_appn (hR:Rel I n σ g a w) {x1 x2:Operand} {y1 y2:SArg} {t ty sz bs:Nat} (ho:o.op=.call { callee:=.builtin .append,args:=#[x1,x2],argTypes:=#[t,t] }) (h1:okA x1 y1=true) (h2:okA x2 y2=true)
  (ht:elemT P t=some ty) (hsz:szT P ty=some sz) (hs0:0 < sz) (hbs:bsT P ty=some bs) (hb0:0 < bs) (hz:∃ i z,P.info? ty=some i ∧ i.zero=some z ∧ z.cells.size=sz)
  (he:ev1 key σ.ev σ (.appn ty sz bs y1 y2)=some e) (hc:cond true σ.ev σ (.appn ty sz bs y1 y2)):Does P I σ g a w o e:=by
 simp [ev1,appnE] at he
end Go.Abs

namespace Go.Abs
variable {P:Program} {I:Init} {n:Nat} {σ:St} {g g':Gh} {a:Act} {w w':World} {o:Oper} {e:Eff} {key:Nat}
theorem Step.store (hR:Rel I n σ g a w) {k ty:Nat} {ob0 ob1:Obj} {arr arr':Array Value} (hk:σ.ob k=some ob0) (ha:Active g k ob0) (hg:w.heap[g.blk k]? = some (.cells arr ty (0,0))) (hst:∀ x,¬ g.st (g.blk k) x)
  (hnew:Kp g w g (w.setRow (g.blk k) arr') → ObOK g (w.setRow (g.blk k) arr') k ob1):Step I σ g w [] [(k,ob1)] g (w.setRow (g.blk k) arr'):=by
 have hkp:Kp g w g (w.setRow (g.blk k) arr'):=⟨fun ad had=>⟨had,cell_setRow hg ad fun hbb=>absurd (hbb ▸ had) (hst _)⟩,rfl,fun b' ty' m q hq hf=>shp_setRow hg (fun hbb=>absurd (hbb ▸ hq) (hst _)) hf⟩
 have one:∀ k' q,[(k,ob1)].lookup k'=some q → k'=k ∧ q=ob1:=fun k' q h=>by
  simp only [List.lookup_cons] at h
  split at h
  ·rename_i hkk;cases h;exact ⟨by simpa using hkk,rfl⟩
  ·simp at h
 have two:∀ k',[(k,ob1)].lookup k'=none → k' ≠ k:=fun k' h hkk=>by subst hkk;simp at h
 have hother:∀ k' o',σ.ob k'=some o' → Active g k' o' → k' ≠ k → g.blk k' ≠ g.blk k:=fun k' o' h ha' hn' hbb=>hn' (hR.sep k' k o' _ h hk ha' ha hbb)
 refine
  {kp:=hkp,agree:=fun _ _=>⟨rfl,rfl,rfl⟩,anew:=fun k h=>by simp at h,puts:=fun k' q h=>?_,keep:=fun k' q h ha' hl _=>⟨setRow_other w _ _ arr' (hother k' q h ha' (two k' hl)),fun x hx=>hx⟩,sep:=fun k' q h _ k2 q2 h2' ha2 hl _=>?_,seps:=fun k1 k2 q1 q2 h1' h2' _ _ _=>?_,loc:=fun k' q h _=>?_,
   wok:=fun b x h=>by rw [setRow_size];exact hR.wok b x h,os:=rfl,tape:=rfl,out:=rfl,grow:=by rw [setRow_size];omega,frame:=fun b' hb' hm=>⟨setRow_other w _ _ arr' fun hbb=>?_,fun x=>Iff.rfl⟩ }
 ·obtain ⟨rfl,rfl⟩:=one k' q h;exact hnew hkp
 ·obtain ⟨rfl,rfl⟩:=one k' q h
  exact hother k2 q2 h2' ha2 (two k2 hl)
 ·exact (one k1 q1 h1').1.trans (one k2 q2 h2').1.symm
 ·obtain ⟨rfl,rfl⟩:=one k' q h
  exact hR.loc k' _ hk ha
 ·rcases hR.loc k _ hk ha with h | h
  ·exact hm (hbb ▸ h)
  ·rw [hbb] at hb';omega
theorem run_storeAt {t m b off ty:Nat} {arr:Array Value} {v:Value} (ht:szT P t=some m) (hm:v.cells.size=m) (hg:w.heap[b]? = some (.cells arr ty (0,0))) (hle:off + m ≤ arr.size) (h1:∀ u ∈ v.cells.toList,u.oneCell'=true) :
  (Instr.storeAt t (.pointer (some ⟨b,off,none⟩)) v).run P w=.ok () (w.setRow b (arr.toList.take off ++ v.cells.toList ++ arr.toList.drop (off + v.cells.toList.length)).toArray):=by
 have:=run_storeCells_at P b off ty v.cells.toList 0 arr w hg (by simp;omega) h1
 simp only [Nat.add_zero] at this
 simp only [Instr.storeAt,Instr.sureAddr,Sem.run_bind,Sem.run_pure,Result.andThen_ok,storeVar,run_sz ht,hm]
 simpa using this
theorem All2.ones {cs:List Cell} {vs:List Value} (h:All2 (RC g w) cs vs):∀ u ∈ vs,u.oneCell'=true:=fun u hu=>by
 obtain ⟨i,hi⟩:=List.getElem?_of_mem hu
 have hlt:=(List.getElem?_eq_some_iff.1 hi).1
 obtain ⟨v,e1,e2⟩:=h.get i cs[i]! (by
  have:=h.length
  rw [List.getElem?_eq_getElem (by omega)]
  simp [List.getElem!_eq_getElem?_getD,List.getElem?_eq_getElem (show i < cs.length by omega)])
 rw [hi] at e1;cases e1
 exact e2.one
theorem does_store (hR:Rel I n σ g a w) {x1 x2:Operand} {t m:Nat} {x:AV} {xs:List Cell} (ho:o.op=.store t x1 x2) (hx:RV2 g w x (a.eval x1)) (hxs:All2 (RC g w) xs (a.eval x2).cells.toList) (ht:szT P t=some m) (he:storeAt σ m xs x=some e):Does P I σ g a w o e:=by
 unfold storeAt at he
 split at he
 ·rename_i k t1 off
  split at he
  case isFalse=>cases he
  rename_i htg
  have e1:=(hx (by simp)).2.2 (by rw [hR.tags];exact htg)
  simp only [ptr] at e1
  split at he
  ·rename_i ty cs eo
   split at he
   ·rename_i hh
    cases he
    obtain ⟨hl,hle⟩:=hh
    obtain ⟨vs,f1,f2,f3⟩:=hR.obs k _ eo
    have hlen:=hxs.length
    have hlen2:=f2.length
    simp only [Array.length_toList] at hlen hlen2
    refine ⟨_,g,undef,.inr ⟨?_,rfl⟩,Step.store (arr':=(vs.toList.take off ++ (a.eval x2).cells.toList ++ vs.toList.drop (off + (a.eval x2).cells.toList.length)).toArray) hR eo trivial f1 f3 fun hkp=>⟨_,setRow_heap w _ vs _ ty (0,0) f1,?_,f3⟩,?_⟩
    ·have:=run_storeAt (P:=P) (w:=w) (v:=a.eval x2) ht (by omega) f1 (off:=off) (by omega) hxs.ones
     simp [execOp,ho,e1,this]
    ·refine (setCells_spec f2 hxs (by omega)).imp fun c _ v hv=>hv.mono hkp (Gh.Le.refl g)
    ·exact ⟨#[],rfl,trivial⟩
   ·cases he
  ·cases he
 ·rename_i k t1 sz i j
  split at he
  case isFalse=>cases he
  rename_i htg
  have e1:=(hx (by simp)).2.2 (by rw [hR.tags];exact htg)
  simp only [ptr] at e1
  split at he
  ·rename_i ty sz' bs es eo
   split at he
   ·rename_i hh
    obtain ⟨rfl,hl,hd⟩:=hh
    split at he
    ·rename_i cs ecs
     split at he
     ·rename_i hle
      cases he
      obtain ⟨arr,c,f1,f2,f3,f4,f5,f6,f7,f8⟩:=hR.obs k _ eo
      have hlen:=hxs.length
      simp only [Array.length_toList] at hlen
      have hcs:=f6 cs (List.mem_of_getElem? ecs)
      have hi:=(List.getElem?_eq_some_iff.1 ecs).1
      have hbig:(i + 1) * sz ≤ c * sz:=Nat.mul_le_mul_right _ (by omega)
      rw [Nat.add_mul] at hbig
      let vs:=(a.eval x2).cells.toList
      let arr':Array Value:=(arr.toList.take (i * sz + j) ++ vs ++ arr.toList.drop (i * sz + j + vs.length)).toArray
      have hvl:vs.length=m:=by simp [vs];omega
      have hget:∀ p,arr'[p]? = if i * sz + j ≤ p ∧ p < i * sz + j + m then vs[p - (i * sz + j)]? else arr[p]?:=fun p=>by
       simp only [arr',List.getElem?_toArray]
       by_cases h1:p < i * sz + j
       ·rw [if_neg (by omega),List.append_assoc,List.getElem?_append_left (by simp;omega),List.getElem?_take,if_pos h1];simp
       ·by_cases h2:p < i * sz + j + m
        ·rw [if_pos ⟨by omega,h2⟩,List.append_assoc,List.getElem?_append_right (by simp;omega),List.getElem?_append_left (by simp;omega)]
         congr 1;simp;omega
        ·rw [if_neg (by omega),List.getElem?_append_right (by simp;omega),List.getElem?_drop]
         simp only [List.length_append,List.length_take,Array.length_toList,Array.getElem?_toList]
         congr 1;omega
      refine ⟨_,g,undef,.inr ⟨?_,rfl⟩,Step.store (arr':=arr') hR eo trivial f3 f8 fun hkp=>?_,?_⟩
      ·have:=run_storeAt (P:=P) (w:=w) (v:=a.eval x2) ht (by omega) f3 (off:=i * sz + j) (by omega) hxs.ones
       simp [execOp,ho,e1,this,arr',vs]
      ·refine ⟨arr',c,by simpa using f1,by simpa using f2,setRow_heap w _ arr _ ty (0,0) f3,?_,by simpa using f5,fun l hl'=>?_,fun p q l d p1 p2=>?_,f8⟩
       ·simp only [arr',List.size_toArray,List.length_append,List.length_take,List.length_drop,Array.length_toList];omega
       ·rcases List.mem_or_eq_of_mem_set hl' with h | h
        ·exact f6 l h
        ·subst h;simp [putC];omega
       ·rw [hget]
        rw [List.getElem?_set] at p1
        by_cases hpi:i=p
        ·subst hpi
         rw [if_pos rfl,if_pos hi] at p1
         cases p1
         by_cases hq:j ≤ q ∧ q < j + m
         ·rw [if_pos (by omega)]
          unfold putC at p2
          rw [List.append_assoc,List.getElem?_append_right (by simp;omega),List.getElem?_append_left (by simp;omega)] at p2
          simp only [List.length_take,List.length_map] at p2
          rw [show q - min j cs.length=q - j by omega,List.getElem?_map] at p2
          obtain ⟨c0,hc0,rfl⟩:=Option.map_eq_some_iff.1 p2
          obtain ⟨v,v1,v2⟩:=hxs.get _ _ hc0
          refine ⟨v,by rw [← v1];congr 1;omega,?_⟩
          have hd':(toD σ c0).isD=true:=(List.all_eq_true.1 hd) _ (List.mem_map_of_mem (List.mem_of_getElem? hc0))
          exact (isD_spec (toD_spec hR v2) hd').mono hkp
         ·rw [if_neg (by omega)]
          have p2':cs[q]? = some d:=by
           unfold putC at p2
           by_cases hqj:q < j
           ·rw [List.append_assoc,List.getElem?_append_left (by simp;omega),List.getElem?_take,if_pos hqj] at p2;exact p2
           ·rw [List.getElem?_append_right (by simp;omega),List.getElem?_drop] at p2
            simp only [List.length_append,List.length_take,List.length_map] at p2
            rw [← p2];congr 1;omega
          obtain ⟨u,u1,u2⟩:=f7 _ _ _ _ ecs p2'
          exact ⟨u,u1,u2.mono hkp⟩
        ·rw [if_neg hpi] at p1
         have hq:q < sz:=by rw [← f6 l (List.mem_of_getElem? p1)];exact (List.getElem?_eq_some_iff.1 p2).1
         obtain ⟨u,u1,u2⟩:=f7 _ _ _ _ p1 p2
         refine ⟨u,?_,u2.mono hkp⟩
         rw [if_neg]
         ·exact u1
         ·rintro ⟨h1,h2⟩
          rcases Nat.lt_or_gt_of_ne hpi with h | h
          ·have:(i + 1) * sz ≤ p * sz:=Nat.mul_le_mul_right _ h
           rw [Nat.add_mul] at this;omega
          ·have:(p + 1) * sz ≤ i * sz:=Nat.mul_le_mul_right _ h
           rw [Nat.add_mul] at this;omega
      ·exact ⟨#[],rfl,trivial⟩
     ·cases he
    ·cases he
   ·cases he
  ·cases he
 ·cases he
theorem s_st1 (hR:Rel I n σ g a w) {x1 x2:Operand} {y1 y2:SArg} {t t':Nat} (ho:o.op=.store t x1 x2) (h1:okA x1 y1=true) (h2:okA x2 y2=true) (ht:szT P t=some 1)
  (he:ev1 key σ.ev σ (.st1 t' y1 y2)=some e) (hc:cond true σ.ev σ (.st1 t' y1 y2)):Does P I σ g a w o e:=by
 simp only [ev1] at he
 split at he
 ·rename_i cs ec
  exact does_store hR ho (opd hR h1 hc.1) (cellsOf_spec (opd hR h2 hc.2) ec) ht he
 ·cases he
theorem s_stn (hR:Rel I n σ g a w) {x1 x2:Operand} {y1 y2:SArg} {t t' m:Nat} (ho:o.op=.store t x1 x2) (h1:okA x1 y1=true) (h2:okA x2 y2=true) (ht:szT P t=some m)
  (he:ev1 key σ.ev σ (.stn t' m y1 y2)=some e) (hc:cond true σ.ev σ (.stn t' m y1 y2)):Does P I σ g a w o e:=by
 simp only [ev1] at he
 split at he
 ·rename_i cs ec
  exact does_store hR ho (opd hR h1 hc.1) (cellsOf_spec (opd hR h2 hc.2) ec) ht he
 ·cases he
end Go.Abs
