/- THIS TEXT TELLS SOME FUNCTIONS OF THE PROGRAM IN THE CALCULUS, PROVES BY THE KERNEL THAT WHAT IS TOLD IS THE LOADED CODE, AND PROVES WHAT THEY COMPUTE: for every argument that is told; the conditions stand in each theorem. -/
import Derived.KernelRfl
import Derived.Test.YtfgjannlepahgaaGreatProg
import Derived.Shelf.SlIterI.Sorted
import Derived.Shelf.SlIterI.Keys
import Derived.Shelf.SlIterI.Collect
import Derived.Shelf.SortM.Plain
import Derived.Shelf.SortM.SortNone
import Derived.Test.YtfgjannlepahgaaGreatDeM0
set_option linter.unusedVariables false
set_option linter.unusedSimpArgs false
namespace Go.Abs
open Go.Proofs
def decs (l:List S) (k:Nat):Nat:=(l.take k).countP S.dec
theorem decs_le (l:List S) (k:Nat):decs l k ≤ l.length:=Nat.le_trans List.countP_le_length (by simp;omega)
def B.count (b:B):Nat:=2 * b.sorts.length + decs b.sorts b.sorts.length + b.cons.length
def plcv (base ahead k many:Int):Int:=if base < 0 ∨ 65535 < base ∨ k < 0 ∨ many ≤ k then -1 else base + ahead + k
def decAt (b:B) (k:Int):Bool:=match b.sorts[k.toNat]? with | some s=>s.dec | none=>false
def B.former (b:B) (base k:Int):Int:=plcv base 0 k b.sorts.length
def B.decoder (b:B) (base k:Int):Int:=if k < 0 ∨ (b.sorts.length:Int) ≤ k ∨ decAt b k=false then -1 else plcv base b.sorts.length (decs b.sorts k.toNat) b.sorts.length
def B.constr (b:B) (base k:Int):Int:=plcv base (b.sorts.length + decs b.sorts b.sorts.length:Nat) k b.cons.length
def B.elimn (b:B) (base k:Int):Int:=plcv base (b.sorts.length + decs b.sorts b.sorts.length + b.cons.length:Nat) k b.sorts.length
theorem real_b1 {b:B} (h:Real (bm b)):b.sorts.length * 80 ≤ 140737488355328:=by
 have:=real_cell h (show .sl 6 80 (b.sorts.map S.cells) ∈ b.cells by simp [B.cells]);simpa [room] using this
theorem real_b2 {b:B} (h:Real (bm b)):b.cons.length * 96 ≤ 140737488355328:=by
 have:=real_cell h (show .sl 6 96 (b.cons.map K.cells) ∈ b.cells by simp [B.cells]);simpa [room] using this
theorem fn1127 (b:B) (k:Nat) (hk:k ≤ b.sorts.length):Fn Tryz.prog 127 [bm b,ib k] (ib (decs b.sorts k)):=by
 refine fn_of (base:=1127000) ok1127 rfl fun σ h0 hr=>?_
 have s0:σ.sl 0=bm b:=h0 0
 have s1:σ.sl 1=ib k:=h0 1
 have hl1:=real_b1 (hr (bm b) (by simp))
 simp only [bm,B.cells,ib] at s0 s1
 clear h0 hr
 unfold c1127
 simp [s0,s1,hk,-W_block]
 rw [W_block]
 refine ⟨by simp [room];omega,?_⟩
 refine W_loop (fun m σ=>∃ i:Nat,i + m=k ∧ σ.sl 5=ib (decs b.sorts i) ∧ σ.sl 11=.c (.sl 6 80 ((b.sorts.take k).map S.cells)) ∧ σ.sl 12=ib k ∧ σ.sl 13=ib i) k ?_ ?_
 ·exact ⟨0,by simp,by simp [ib,decs],by simp [List.map_take],by simp [ib],by simp [ib]⟩
 clear s0 s1 σ
 rintro m σ ⟨i,hm,s5,s11,s12,s13⟩
 simp only [ib] at s5 s12 s13
 unfold c1127b0
 by_cases hi:i < k
 ·have w1:=wrap_succ (i:=i) (by omega)
  obtain ⟨s,hs⟩:=at_of (ts:=b.sorts) (i:=i) (by omega)
  obtain ⟨hil,hs2⟩:=getE hs
  have hle:=decs_le b.sorts i
  have w2:=wrap_succ (i:=decs b.sorts i) (by omega)
  have hnx:decs b.sorts (i + 1)=decs b.sorts i + if s.dec then 1 else 0:=by
   rw [decs,List.take_add_one,hs,List.countP_append];simp [decs]
  have hik:i < (b.sorts.take k).length:=by simp;omega
  cases hd:s.dec with
  | true=>
   rw [hd] at hnx
   simp [s5,s11,s12,s13,hi,hil,hs2,S.cells,hd,w1,w2]
   exact ⟨by omega,m - 1,by omega,i + 1,by omega,by simp [ib,hnx],by simp [ib],by simp [ib]⟩
  | false=>
   rw [hd] at hnx
   simp [s5,s11,s12,s13,hi,hil,hs2,S.cells,hd,w1,w2]
   exact ⟨by omega,m - 1,by omega,i + 1,by omega,by simp [ib,hnx],by simp [ib],by simp [ib]⟩
 ·have:i=k:=by omega
  subst this
  simp [s5,s11,s12,s13,r1127,ib]
theorem fn1094 (b:B):Fn Tryz.prog 94 [bm b] (ib b.count):=by
 refine fn_of (base:=1094000) ok1094 rfl fun σ h0 hr=>?_
 have s0:σ.sl 0=bm b:=h0 0
 have hl1:=real_b1 (hr (bm b) (by simp))
 have hl2:=real_b2 (hr (bm b) (by simp))
 simp only [bm,B.cells] at s0
 clear h0 hr
 unfold c1094
 simp [s0]
 refine W_dregA ?_
 have hle:=decs_le b.sorts b.sorts.length
 have w1:IntKind.wrap .i64 (2 * (b.sorts.length:Int))=2 * (b.sorts.length:Int):=wrap_id (by omega) (by omega)
 have w2:IntKind.wrap .i64 (2 * (b.sorts.length:Int) + (decs b.sorts b.sorts.length:Nat))=2 * (b.sorts.length:Int) + (decs b.sorts b.sorts.length:Nat):=wrap_id (by omega) (by omega)
 have w3:IntKind.wrap .i64 (2 * (b.sorts.length:Int) + (decs b.sorts b.sorts.length:Nat) + (b.cons.length:Nat))=((b.count:Nat):Int):=by rw [wrap_id (by omega) (by omega)];simp [B.count]
 simp [s0,w1]
 refine CallA.fn (fn1127 b b.sorts.length (Nat.le_refl _)) (by simp [bm,B.cells,ib]) (by simp) rfl ?_
 simp only [ib]
 simp [s0,w1,w2,w3]
 refine realC_n ?_
 simp [r1094,ib]
theorem fn1155 (base ahead k many:Int) (h1:0 ≤ ahead) (h2:ahead ≤ 1000000000000000) (h3:many ≤ 1000000000000000):Fn Tryz.prog 155 [ib base,ib ahead,ib k,ib many] (ib (plcv base ahead k many)):=by
 refine fn_of (base:=1155000) ok1155 rfl fun σ h0 hr=>?_
 have s0:σ.sl 0=.c (.v (.int .i64 base)):=h0 0
 have s1:σ.sl 1=.c (.v (.int .i64 ahead)):=h0 1
 have s2:σ.sl 2=.c (.v (.int .i64 k)):=h0 2
 have s3:σ.sl 3=.c (.v (.int .i64 many)):=h0 3
 clear h0 hr
 unfold c1155
 by_cases c1:base < 0
 ·simp [s0,s1,s2,s3,c1,r1155,ib,plcv]
 ·by_cases c2:65535 < base
  ·simp [s0,s1,s2,s3,c1,c2,r1155,ib,plcv]
  ·by_cases c3:k < 0
   ·simp [s0,s1,s2,s3,c1,c2,c3,r1155,ib,plcv]
   ·by_cases c4:many ≤ k
    ·simp [s0,s1,s2,s3,c1,c2,c3,c4,r1155,ib,plcv]
    ·have w1:IntKind.wrap .i64 (base + ahead)=base + ahead:=wrap_id (by omega) (by omega)
     have w2:IntKind.wrap .i64 (base + ahead + k)=base + ahead + k:=wrap_id (by omega) (by omega)
     simp [s0,s1,s2,s3,c1,c2,c3,c4,w1,w2,r1155,ib,plcv]
theorem fn1114 (b:B) (base k:Int):Fn Tryz.prog 114 [bm b,ib base,ib k] (ib (b.former base k)):=by
 refine fn_of (base:=1114000) ok1114 rfl fun σ h0 hr=>?_
 have s0:σ.sl 0=bm b:=h0 0
 have s1:σ.sl 1=.c (.v (.int .i64 base)):=h0 1
 have s2:σ.sl 2=.c (.v (.int .i64 k)):=h0 2
 have hl1:=real_b1 (hr (bm b) (by simp))
 simp only [bm,B.cells] at s0
 clear h0 hr
 unfold c1114
 simp [s0,s1,s2]
 refine ECall.fn (fn1155 base 0 k b.sorts.length (by omega) (by omega) (by omega)) (by simp [ib]) (by simp) rfl fun _=>?_
 simp [r1114,ib,B.former]
theorem fn1115 (b:B) (base k:Int):Fn Tryz.prog 115 [bm b,ib base,ib k] (ib (b.decoder base k)):=by
 refine fn_of (base:=1115000) ok1115 rfl fun σ h0 hr=>?_
 have s0:σ.sl 0=bm b:=h0 0
 have s1:σ.sl 1=.c (.v (.int .i64 base)):=h0 1
 have s2:σ.sl 2=.c (.v (.int .i64 k)):=h0 2
 have hl1:=real_b1 (hr (bm b) (by simp))
 simp only [bm,B.cells] at s0
 clear h0 hr
 unfold c1115
 by_cases c1:k < 0
 ·cases hx:b.sorts[k.toNat]? with
  | none=>simp [s0,s1,s2,c1,hx,r1115,ib,B.decoder]
  | some s=>simp [s0,s1,s2,c1,hx,S.cells,r1115,ib,B.decoder]
 ·obtain ⟨k,rfl⟩:=Int.eq_ofNat_of_zero_le (a:=k) (by omega)
  by_cases c2:(b.sorts.length:Int) ≤ k
  ·have c2':b.sorts.length ≤ k:=by omega
   simp [s0,s1,s2,c1,c2,c2',r1115,ib,B.decoder]
  ·have c2':¬ b.sorts.length ≤ k:=by omega
   obtain ⟨s,hs⟩:=at_of (ts:=b.sorts) (i:=k) (by omega)
   obtain ⟨hil,hs2⟩:=getE hs
   have hle:=decs_le b.sorts k
   cases hd:s.dec with
   | true=>
    have hda:decAt b k=true:=by simp [decAt,hs,hd]
    simp [s0,s1,s2,c1,c2,c2',hil,hs2,S.cells,hd]
    refine W_dregA ?_
    simp [s0,s1,s2]
    refine CallA.fn (fn1127 b k (by omega)) (by simp [bm,B.cells,ib]) (by simp) rfl ?_
    simp only [ib]
    simp [s0,s1,s2]
    refine CallA.fn (fn1155 base b.sorts.length (decs b.sorts k) b.sorts.length (by omega) (by omega) (by omega)) (by simp [ib]) (by simp) rfl ?_
    simp [ib]
    refine realC_n ?_
    simp [r1115,ib,B.decoder,c1,c2,c2',hda]
   | false=>
    have hda:decAt b k=false:=by simp [decAt,hs,hd]
    simp [s0,s1,s2,c1,c2,c2',hil,hs2,S.cells,hd,r1115,ib,B.decoder,hda]
theorem fn1116 (b:B) (base k:Int):Fn Tryz.prog 116 [bm b,ib base,ib k] (ib (b.constr base k)):=by
 refine fn_of (base:=1116000) ok1116 rfl fun σ h0 hr=>?_
 have s0:σ.sl 0=bm b:=h0 0
 have s1:σ.sl 1=.c (.v (.int .i64 base)):=h0 1
 have s2:σ.sl 2=.c (.v (.int .i64 k)):=h0 2
 have hl1:=real_b1 (hr (bm b) (by simp))
 have hl2:=real_b2 (hr (bm b) (by simp))
 simp only [bm,B.cells] at s0
 clear h0 hr
 have hle:=decs_le b.sorts b.sorts.length
 have w1:IntKind.wrap .i64 ((b.sorts.length:Int) + (decs b.sorts b.sorts.length:Nat))=((b.sorts.length + decs b.sorts b.sorts.length:Nat):Int):=by rw [wrap_id (by omega) (by omega)];omega
 unfold c1116
 simp [s0,s1,s2]
 refine W_dregA ?_
 simp [s0,s1,s2]
 refine CallA.fn (fn1127 b b.sorts.length (Nat.le_refl _)) (by simp [bm,B.cells,ib]) (by simp) rfl ?_
 simp only [ib]
 simp [s0,s1,s2,w1,-Int.natCast_add]
 refine CallA.fn (fn1155 base (b.sorts.length + decs b.sorts b.sorts.length:Nat) k b.cons.length (by omega) (by omega) (by omega)) (by simp [ib]) (by simp) rfl ?_
 simp [ib]
 refine realC_n ?_
 simp [r1116,ib,B.constr]
theorem fn1117 (b:B) (base k:Int):Fn Tryz.prog 117 [bm b,ib base,ib k] (ib (b.elimn base k)):=by
 refine fn_of (base:=1117000) ok1117 rfl fun σ h0 hr=>?_
 have s0:σ.sl 0=bm b:=h0 0
 have s1:σ.sl 1=.c (.v (.int .i64 base)):=h0 1
 have s2:σ.sl 2=.c (.v (.int .i64 k)):=h0 2
 have hl1:=real_b1 (hr (bm b) (by simp))
 have hl2:=real_b2 (hr (bm b) (by simp))
 simp only [bm,B.cells] at s0
 clear h0 hr
 have hle:=decs_le b.sorts b.sorts.length
 have w1:IntKind.wrap .i64 ((b.sorts.length:Int) + (decs b.sorts b.sorts.length:Nat))=((b.sorts.length + decs b.sorts b.sorts.length:Nat):Int):=by rw [wrap_id (by omega) (by omega)];omega
 have w2:IntKind.wrap .i64 (((b.sorts.length + decs b.sorts b.sorts.length:Nat):Int) + (b.cons.length:Nat))=((b.sorts.length + decs b.sorts b.sorts.length + b.cons.length:Nat):Int):=by rw [wrap_id (by omega) (by omega)];omega
 unfold c1117
 simp [s0,s1,s2]
 refine W_dregA ?_
 simp [s0,s1,s2]
 refine CallA.fn (fn1127 b b.sorts.length (Nat.le_refl _)) (by simp [bm,B.cells,ib]) (by simp) rfl ?_
 simp only [ib]
 simp [s0,s1,s2,w1,w2,-Int.natCast_add]
 refine CallA.fn (fn1155 base (b.sorts.length + decs b.sorts b.sorts.length + b.cons.length:Nat) k b.sorts.length (by omega) (by omega) (by omega)) (by simp [ib]) (by simp) rfl ?_
 simp [ib]
 refine realC_n ?_
 simp [r1117,ib,B.elimn]
def lvl (n:Int):Bool:=decide (0 ≤ n) && decide (n ≤ 6)
theorem fn1156 (n:Int):Fn Tryz.prog 156 [ib n] (bb (lvl n)):=by
 refine fn_of (base:=1156000) ok1156 rfl fun σ h0 hr=>?_
 have s0:σ.sl 0=.c (.v (.int .i64 n)):=h0 0
 clear h0 hr
 unfold c1156
 by_cases c1:0 ≤ n
 ·simp [s0,c1,r1156,bb,lvl]
 ·simp [s0,c1,r1156,bb,lvl]
end Go.Abs

namespace Go.Abs
def c1017b0:SCode:=
 .seq (.seq (.reg [m_ 23 8,o_ 24 (.len 24 (.t 23)),o_ 25 (.bin .gtr (.t 24) (.k (.int .i64 0)))]) (.cond (.t 25) (.skip) (.exit 1))) (.block 2 (.seq (.reg [m_ 26 8,m_ 27 8,o_ 28 (.len 24 (.t 27)),o_ 29 (.bin .sub (.t 28) (.k (.int .i64 1))),o_ 30 (.iad 3 1 (.t 26) (.t 29)),o_ 31 (.ld1 3 (.t 30)),m_ 9 31]) (.seq (.reg [m_ 32 8,m_ 33 8,o_ 34 (.len 24 (.t 33)),o_ 35 (.bin .sub (.t 34) (.k (.int .i64 1))),o_ 36 (.shr 3 1 8 (.t 32) (.t 35)),m_ 8 36]) (.seq (.seq (.reg [m_ 37 7,m_ 38 9,o_ 39 (.mget true false [.v (.bool false)] (.t 37) (.t 38))]) (.cond (.t 39) (.exit 2) (.skip))) (.seq (.reg [m_ 40 7,m_ 41 9,n_ (.mset true (.t 40) (.t 41) (.k (.bool true)))]) (.reg [m_ 42 8,o_ 43 (.ld1 37 (.t 2)),m_ 44 9,o_ 45 (.call (.f 41) [.t 43,.t 44]),o_ 46 (.appm 3 1 8 (.t 42) (.t 45)),m_ 8 46]))))))
def c1017:SCode:=
 .seq (.reg [o_ 2 (.box 37 (.t 0)),o_ 4 (.mv (.nil 1 8)),o_ 5 (.mv (.k (.int .i64 0)))]) (.seq (.reg [o_ 10 (.ld1 37 (.t 2)),o_ 11 (.call (.f 27) [.t 10]),m_ 6 11]) (.seq (.block 0 (.seq (.reg [m_ 13 6,o_ 14 (.bin .neq (.t 13) (.k (.int .i64 0))),m_ 12 14]) (.cond (.t 12) (.seq (.reg [m_ 15 6,o_ 4 (.mv (.nil 1 8)),m_ 5 15]) (.ret)) (.seq (.reg [m_ 17 1,o_ 18 (.mkfn 39 [] [.t 2]),o_ 19 (.call (.f 38) [.t 17,.t 18]),m_ 16 19]) (.cond (.t 16) (.seq (.reg [o_ 4 (.mv (.nil 1 8)),o_ 5 (.mv (.k (.int .i64 14)))]) (.ret)) (.skip)))))) (.seq (.reg [o_ 20 (.mkmap true),m_ 7 20]) (.seq (.seq (.reg [m_ 21 1,o_ 22 (.call (.f 40) [.t 21]),m_ 8 22]) (.block 1 (.loop c1017b0))) (.seq (.reg [m_ 47 7,o_ 48 (.call (.f 43) [.t 47]),o_ 49 (.call (.f 42) [.t 48]),m_ 4 49,o_ 5 (.mv (.k (.int .i64 0)))]) (.ret))))))
def r1017:List RR:=[.t 4,.t 5]
theorem ok1017:okFn Go.Proofs.Tryz.prog 17 50 c1017 r1017 2=true:=by kernel_rfl
def c1027b0:SCode:=
 .seq (.reg [o_ 15 (.bin .lss (.t 14) (.t 13))]) (.seq (.cond (.t 15) (.skip) (.exit 0)) (.seq (.block 1 (.seq (.reg [m_ 16 14,o_ 17 (.iad 70 12 (.t 12) (.t 14)),o_ 18 (.ldn 70 12 (.t 17)),o_ 5 (.alloc 70 [.v (.int .i64 0),.v (.int .i64 0),.v (.int .i64 0),.cap 3 40 [],.v (.int .i64 0),.v (.int .i64 0),.cap 3 40 [],.v (.int .i64 0),.v (.int .i64 0),.cap 6 80 [],.cap 6 96 [],.v (.int .i64 0)]),m_ 4 16,n_ (.stn 70 12 (.t 5) (.t 18))]) (.seq (.seq (.reg [o_ 19 (.ldn 70 12 (.t 5)),m_ 20 4,o_ 21 (.call (.f 52) [.t 19,.t 20]),o_ 22 (.not (.t 21))]) (.cond (.t 22) (.seq (.reg [o_ 2 (.mv (.k (.int .i64 12)))]) (.ret)) (.skip))) (.seq (.seq (.reg [o_ 23 (.fad 70 0 0 (.t 5)),o_ 24 (.ld1 3 (.t 23)),o_ 25 (.bin .lss (.t 24) (.k (.int .i64 3)))]) (.cond (.t 25) (.exit 1) (.skip))) (.seq (.reg [m_ 27 3,o_ 28 (.fad 70 3 7 (.t 5)),o_ 29 (.ld1 3 (.t 28)),
 o_ 30 (.mget false true [.cap 6 80 [],.cap 6 96 [],.v (.int .i64 0)] (.t 27) (.t 29)),m_ 26 30,o_ 31 (.ext (.t 26) 0),o_ 32 (.ext (.t 26) 1),o_ 6 (.alloc 68 [.cap 6 80 [],.cap 6 96 [],.v (.int .i64 0)]),n_ (.stn 68 3 (.t 6) (.t 31)),m_ 7 32]) (.seq (.seq (.reg [m_ 33 7,m_ 34 33,p_ 35 34 (.ldn 68 3 (.t 6)),p_ 36 34 (.fad 70 5 9 (.t 5)),p_ 37 34 (.ldn 68 3 (.t 36)),p_ 38 34 (.call (.f 53) [.t 35,.t 37]),p_ 39 34 (.not (.t 38)),o_ 40 (.pick (.t 34) (.t 39) (.k (.bool false))),m_ 41 40,qm_ 42 41 7,q_ 43 41 (.not (.t 42)),qm_ 44 41 43,p_ 45 44 (.fad 70 5 9 (.t 5)),p_ 46 44 (.ldn 68 3 (.t 45)),p_ 47 44 (.fad 70 3 7 (.t 5)),p_ 48 44 (.ld1 3 (.t 47)),p_ 49 44 (.call (.f 54) [.t 46,.t 48]),p_ 50 44 (.not (.t 49)),q_ 51 41 (.pick (.t 44) (.t 50) (.k (.bool false))),o_ 52 (.pick (.t 41) (.k (.bool true)) (.t 51))]) (.cond (.t 52) (.seq (.reg [o_ 2 (.mv (.k (.int .i64 12)))]) (.ret)) (.skip)))
 (.reg [m_ 53 3,o_ 54 (.fad 70 3 7 (.t 5)),o_ 55 (.ld1 3 (.t 54)),o_ 56 (.fad 70 5 9 (.t 5)),o_ 57 (.ldn 68 3 (.t 56)),n_ (.mset false (.t 53) (.t 55) (.t 57))]))))))) (.reg [o_ 58 (.bin .add (.t 14) (.k (.int .i64 1))),m_ 14 58])))
def c1027:SCode:=
 .seq (.reg [o_ 2 (.mv (.k (.int .i64 0)))]) (.seq (.seq (.reg [m_ 8 0,o_ 9 (.len 37 (.t 8)),o_ 10 (.bin .gtr (.t 9) (.k (.int .i64 200)))]) (.cond (.t 10) (.seq (.reg [o_ 2 (.mv (.k (.int .i64 13)))]) (.ret)) (.skip))) (.seq (.reg [o_ 11 (.mkmap false),m_ 3 11]) (.seq (.seq (.reg [m_ 12 0,o_ 13 (.len 37 (.t 12)),o_ 14 (.mv (.k (.int .i64 0)))]) (.block 0 (.loop c1027b0))) (.seq (.reg [o_ 2 (.mv (.k (.int .i64 0)))]) (.ret)))))
def r1027:List RR:=[.t 2]
theorem ok1027:okFn Go.Proofs.Tryz.prog 27 59 c1027 r1027 1=true:=by kernel_rfl
def c1034:SCode:=
 .seq (.reg [o_ 2 (.alloc 63 [.v (.int .i64 0),.v (.int .i64 0),.cap 3 40 []])]) (.seq (.reg [m_ 3 0,o_ 4 (.build 63 [.v (.int .i64 0),.v (.int .i64 0),.cap 3 40 []] [(0,0,1,.k (.int .i64 3)),(1,1,1,.t 3)]),n_ (.stn 63 3 (.t 2) (.t 4))]) (.ret))
def r1034:List RR:=[.cn 2 3]
theorem ok1034:okFn Go.Proofs.Tryz.prog 34 5 c1034 r1034 1=true:=by kernel_rfl
def c1038:SCode:=
 .seq (.reg [o_ 4 (.mv (.k (.bool false)))]) (.seq (.reg [m_ 5 0,m_ 6 1,o_ 7 (.call (.f 60) [.t 5,.t 6]),o_ 8 (.bin .geq (.t 7) (.k (.int .i64 0))),m_ 4 8]) (.ret))
def r1038:List RR:=[.t 4]
theorem ok1038:okFn Go.Proofs.Tryz.prog 38 9 c1038 r1038 2=true:=by kernel_rfl
def c1039:SCode:=
 .seq (.reg [o_ 3 (.mv (.k (.bool false)))]) (.seq (.reg [m_ 4 0,o_ 5 (.bin .lss (.t 4) (.k (.int .i64 0))),m_ 6 5,qm_ 7 6 0,q_ 8 6 (.ld1 37 (.t 1)),q_ 9 6 (.len 37 (.t 8)),q_ 10 6 (.bin .geq (.t 7) (.t 9)),o_ 11 (.pick (.t 6) (.k (.bool true)) (.t 10)),m_ 3 11]) (.ret))
def r1039:List RR:=[.t 3]
theorem ok1039:okFn Go.Proofs.Tryz.prog 39 12 c1039 r1039 2=true:=by kernel_rfl
def c1040:SCode:=
 .seq (.reg [o_ 2 (.mv (.nil 1 8))]) (.seq (.seq (.reg [m_ 3 0,o_ 4 (.nileq false (.t 3))]) (.cond (.t 4) (.seq (.reg [o_ 2 (.mv (.nil 1 8))]) (.ret)) (.skip))) (.seq (.reg [o_ 5 (.lit 3 1 8 []),m_ 6 0,o_ 7 (.appn 3 1 8 (.t 5) (.t 6)),m_ 2 7]) (.ret)))
def r1040:List RR:=[.t 2]
theorem ok1040:okFn Go.Proofs.Tryz.prog 40 8 c1040 r1040 1=true:=by kernel_rfl
def c1041b0:SCode:=
 .seq (.reg [o_ 32 (.bin .lss (.t 31) (.t 30))]) (.seq (.cond (.t 32) (.skip) (.exit 2)) (.seq (.block 3 (.seq (.reg [o_ 33 (.iad 3 1 (.t 29) (.t 31)),o_ 34 (.ld1 3 (.t 33)),m_ 9 34]) (.reg [m_ 35 5,m_ 36 9,n_ (.mset true (.t 35) (.t 36) (.k (.bool true)))]))) (.reg [o_ 37 (.bin .add (.t 31) (.k (.int .i64 1))),m_ 31 37])))
def c1041b1:SCode:=
 .seq (.reg [o_ 25 (.bin .lss (.t 24) (.t 23))]) (.seq (.cond (.t 25) (.skip) (.exit 0)) (.seq (.block 1 (.seq (.reg [o_ 26 (.iad 63 3 (.t 22) (.t 24)),o_ 27 (.ldn 63 3 (.t 26)),o_ 7 (.alloc 63 [.v (.int .i64 0),.v (.int .i64 0),.cap 3 40 []]),n_ (.stn 63 3 (.t 7) (.t 27))]) (.seq (.reg [o_ 28 (.ldn 63 3 (.t 7)),o_ 29 (.call (.f 61) [.t 28]),o_ 30 (.len 24 (.t 29)),o_ 31 (.mv (.k (.int .i64 0)))]) (.block 2 (.loop c1041b0))))) (.reg [o_ 38 (.bin .add (.t 24) (.k (.int .i64 1))),m_ 24 38])))
def c1041b2:SCode:=
 .seq (.seq (.reg [m_ 50 10,m_ 51 1,o_ 52 (.bin .lss (.t 50) (.t 51))]) (.cond (.t 52) (.skip) (.exit 4))) (.seq (.block 5 (.reg [m_ 55 5,m_ 56 10,n_ (.mset true (.t 55) (.t 56) (.k (.bool true)))])) (.reg [m_ 53 10,o_ 54 (.bin .add (.t 53) (.k (.int .i64 1))),m_ 10 54]))
def c1041:SCode:=
 .seq (.reg [o_ 4 (.mv (.nil 1 8))]) (.seq (.reg [o_ 11 (.mkmap true),m_ 5 11]) (.seq (.seq (.dreg [0,0,3,7,15,0,0,96,224,480,1023,2047,0] [m_ 12 0,m_ 13 1,o_ 14 (.iad 70 12 (.t 12) (.t 13)),o_ 15 (.fad 70 1 1 (.t 14)),o_ 16 (.ldn 63 3 (.t 15)),m_ 17 0,m_ 18 1,o_ 19 (.iad 70 12 (.t 17) (.t 18)),o_ 20 (.fad 70 2 4 (.t 19)),o_ 21 (.ldn 63 3 (.t 20)),o_ 22 (.lit 63 3 40 [.t 16,.t 21]),o_ 23 (.len 61 (.t 22)),o_ 24 (.mv (.k (.int .i64 0)))]) (.block 0 (.loop c1041b1))) (.seq (.seq (.reg [m_ 39 0,m_ 40 1,o_ 41 (.iad 70 12 (.t 39) (.t 40)),o_ 42 (.fad 70 0 0 (.t 41)),o_ 43 (.ld1 3 (.t 42)),o_ 44 (.bin .geq (.t 43) (.k (.int .i64 3)))]) (.cond (.t 44) (.seq (.reg [m_ 45 0,m_ 46 1,o_ 47 (.iad 70 12 (.t 45) (.t 46)),o_ 48 (.fad 70 3 7 (.t 47)),o_ 49 (.ld1 3 (.t 48)),m_ 10 49]) (.block 4 (.loop c1041b2))) (.skip))) (.seq (.reg [m_ 57 5,o_ 58 (.call (.f 43) [.t 57]),
 o_ 59 (.call (.f 42) [.t 58]),m_ 4 59]) (.ret)))))
def r1041:List RR:=[.t 4]
theorem ok1041:okFn Go.Proofs.Tryz.prog 41 60 c1041 r1041 2=true:=by kernel_rfl
def c1052:SCode:=
 .seq (.reg [o_ 2 (.box 70 (.t 0)),o_ 4 (.mv (.k (.bool false)))]) (.seq (.seq (.reg [o_ 5 (.fad 70 1 1 (.t 2)),o_ 6 (.ldn 63 3 (.t 5)),m_ 7 1,o_ 8 (.call (.f 81) [.t 6,.k (.int .i64 0),.t 7]),o_ 9 (.not (.t 8))]) (.cond (.t 9) (.seq (.reg [o_ 4 (.mv (.k (.bool false)))]) (.ret)) (.skip))) (.seq (.seq (.reg [o_ 10 (.fad 70 0 0 (.t 2)),o_ 11 (.ld1 3 (.t 10))]) (.block 0 (.seq (.reg [o_ 13 (.bin .eql (.t 11) (.k (.int .i64 1))),m_ 12 13]) (.cond (.t 12) (.seq (.reg [o_ 14 (.fad 70 3 7 (.t 2)),o_ 15 (.ld1 3 (.t 14)),o_ 16 (.bin .eql (.t 15) (.k (.int .i64 0))),m_ 17 16,p_ 18 17 (.fad 70 4 8 (.t 2)),p_ 19 17 (.ld1 3 (.t 18)),p_ 20 17 (.bin .eql (.t 19) (.k (.int .i64 0))),o_ 21 (.pick (.t 17) (.t 20) (.k (.bool false))),m_ 22 21,p_ 23 22 (.fad 70 5 9 (.t 2)),p_ 24 22 (.ldn 68 3 (.t 23)),p_ 25 22 (.call (.f 82) [.t 24]),o_ 26 (.pick (.t 22) (.t 25) (.k (.bool false))),m_ 27 26,
 p_ 28 27 (.fad 70 2 4 (.t 2)),p_ 29 27 (.ldn 63 3 (.t 28)),p_ 30 27 (.call (.f 83) [.t 29]),o_ 31 (.pick (.t 27) (.t 30) (.k (.bool false))),m_ 4 31]) (.ret)) (.seq (.reg [o_ 33 (.bin .eql (.t 11) (.k (.int .i64 2))),m_ 32 33]) (.cond (.t 32) (.seq (.reg [o_ 34 (.fad 70 3 7 (.t 2)),o_ 35 (.ld1 3 (.t 34)),o_ 36 (.bin .eql (.t 35) (.k (.int .i64 0))),m_ 37 36,p_ 38 37 (.fad 70 4 8 (.t 2)),p_ 39 37 (.ld1 3 (.t 38)),p_ 40 37 (.bin .eql (.t 39) (.k (.int .i64 0))),o_ 41 (.pick (.t 37) (.t 40) (.k (.bool false))),m_ 42 41,p_ 43 42 (.fad 70 5 9 (.t 2)),p_ 44 42 (.ldn 68 3 (.t 43)),p_ 45 42 (.call (.f 82) [.t 44]),o_ 46 (.pick (.t 42) (.t 45) (.k (.bool false))),m_ 47 46,p_ 48 47 (.fad 70 2 4 (.t 2)),p_ 49 47 (.ldn 63 3 (.t 48)),pm_ 50 47 1,p_ 51 47 (.call (.f 81) [.t 49,.k (.int .i64 0),.t 50]),o_ 52 (.pick (.t 47) (.t 51) (.k (.bool false))),m_ 4 52]) (.ret)) (.seq (.seq (.reg
 [o_ 54 (.bin .eql (.t 11) (.k (.int .i64 3))),m_ 53 54]) (.cond (.t 53) (.skip) (.seq (.reg [o_ 55 (.bin .eql (.t 11) (.k (.int .i64 4))),m_ 53 55]) (.cond (.t 53) (.skip) (.seq (.reg [o_ 56 (.bin .eql (.t 11) (.k (.int .i64 5))),m_ 53 56]) (.cond (.t 53) (.skip) (.reg [o_ 57 (.bin .eql (.t 11) (.k (.int .i64 6))),m_ 53 57]))))))) (.cond (.t 53) (.seq (.reg [o_ 58 (.fad 70 2 4 (.t 2)),o_ 59 (.ldn 63 3 (.t 58)),o_ 60 (.call (.f 83) [.t 59]),m_ 61 60,p_ 62 61 (.fad 70 3 7 (.t 2)),p_ 63 61 (.ld1 3 (.t 62)),p_ 64 61 (.bin .geq (.t 63) (.k (.int .i64 0))),o_ 65 (.pick (.t 61) (.t 64) (.k (.bool false))),m_ 66 65,p_ 67 66 (.ldn 70 12 (.t 2)),p_ 68 66 (.call (.f 84) [.t 67]),pm_ 69 66 1,p_ 70 66 (.bin .eql (.t 68) (.t 69)),o_ 71 (.pick (.t 66) (.t 70) (.k (.bool false))),m_ 4 71]) (.ret)) (.skip))))))))) (.seq (.reg [o_ 4 (.mv (.k (.bool false)))]) (.ret))))
def r1052:List RR:=[.t 4]
theorem ok1052:okFn Go.Proofs.Tryz.prog 52 72 c1052 r1052 2=true:=by kernel_rfl
def c1060b0:SCode:=
 .seq (.reg [o_ 9 (.bin .lss (.t 8) (.t 7))]) (.seq (.cond (.t 9) (.skip) (.exit 0)) (.seq (.block 1 (.seq (.reg [m_ 10 8,m_ 5 10]) (.seq (.reg [m_ 11 1,m_ 12 0,m_ 13 5,o_ 14 (.iad 3 1 (.t 12) (.t 13)),o_ 15 (.ld1 3 (.t 14)),o_ 16 (.call (.t 11) [.t 15])]) (.cond (.t 16) (.seq (.reg [m_ 17 5,m_ 4 17]) (.ret)) (.skip))))) (.reg [o_ 18 (.bin .add (.t 8) (.k (.int .i64 1))),m_ 8 18])))
def c1060:SCode:=
 .seq (.reg [o_ 4 (.mv (.k (.int .i64 0)))]) (.seq (.seq (.reg [m_ 6 0,o_ 7 (.len 24 (.t 6)),o_ 8 (.mv (.k (.int .i64 0)))]) (.block 0 (.loop c1060b0))) (.seq (.reg [o_ 4 (.mv (.k (.int .i64 (-1))))]) (.ret)))
def r1060:List RR:=[.t 4]
theorem ok1060:okFn Go.Proofs.Tryz.prog 60 19 c1060 r1060 2=true:=by kernel_rfl
def c1082:SCode:=
 .seq (.reg [o_ 1 (.box 68 (.t 0)),o_ 2 (.mv (.k (.bool false)))]) (.seq (.reg [o_ 3 (.fad 68 0 0 (.t 1)),o_ 4 (.ld1 65 (.t 3)),o_ 5 (.len 65 (.t 4)),o_ 6 (.fad 68 1 1 (.t 1)),o_ 7 (.ld1 66 (.t 6)),o_ 8 (.len 66 (.t 7)),o_ 9 (.bin .add (.t 5) (.t 8)),o_ 10 (.bin .eql (.t 9) (.k (.int .i64 0))),m_ 11 10,p_ 12 11 (.fad 68 2 2 (.t 1)),p_ 13 11 (.ld1 3 (.t 12)),p_ 14 11 (.bin .eql (.t 13) (.k (.int .i64 0))),o_ 15 (.pick (.t 11) (.t 14) (.k (.bool false))),m_ 2 15]) (.ret))
def r1082:List RR:=[.t 2]
theorem ok1082:okFn Go.Proofs.Tryz.prog 82 16 c1082 r1082 1=true:=by kernel_rfl
def c1083:SCode:=
 .seq (.reg [o_ 1 (.box 63 (.t 0)),o_ 2 (.mv (.k (.bool false)))]) (.seq (.reg [o_ 3 (.fad 63 0 0 (.t 1)),o_ 4 (.ld1 3 (.t 3)),o_ 5 (.bin .eql (.t 4) (.k (.int .i64 0))),m_ 6 5,p_ 7 6 (.fad 63 1 1 (.t 1)),p_ 8 6 (.ld1 3 (.t 7)),p_ 9 6 (.bin .eql (.t 8) (.k (.int .i64 0))),o_ 10 (.pick (.t 6) (.t 9) (.k (.bool false))),m_ 11 10,p_ 12 11 (.fad 63 2 2 (.t 1)),p_ 13 11 (.ld1 61 (.t 12)),p_ 14 11 (.len 61 (.t 13)),p_ 15 11 (.bin .eql (.t 14) (.k (.int .i64 0))),o_ 16 (.pick (.t 11) (.t 15) (.k (.bool false))),m_ 2 16]) (.ret))
def r1083:List RR:=[.t 2]
theorem ok1083:okFn Go.Proofs.Tryz.prog 83 17 c1083 r1083 1=true:=by kernel_rfl
end Go.Abs

namespace Go.Abs
mutual
def T.mv:T → Int → Int → T
 | .mk k n ts,b,c=>if k=1 then .mk 1 (if n < c then n else n + b) [] else .mk k n (T.mvL k b c 0 ts)
def T.mvL (k b c:Int):Int → List T → List T
 | _,[]=>[]
 | i,t :: ts=>T.mv t b (c + bindsOf k i) :: T.mvL k b c (i + 1) ts
end
theorem binds01 (k i:Int):bindsOf k i=0 ∨ bindsOf k i=1:=by simp only [bindsOf];split <;> simp
theorem wrap_dp {k i d:Int} (h0:0 ≤ d) (h1:d ≤ 4611686018427387904):IntKind.wrap .i64 (d + bindsOf k i)=d + bindsOf k i:=by
 rcases binds01 k i with h | h <;> rw [h] <;> exact wrap_id (by omega) (by omega)
theorem check_iff (t:T):t.check=0 ↔ t.size ≤ 6000 ∧ t.depth ≤ 200 ∧ t.formed=true:=by
 simp only [T.check]
 by_cases h1:6000 < t.size
 ·simp [h1];intro h;omega
 ·by_cases h2:200 < t.depth
  ·simp [h1,h2];intro _ h;omega
  ·by_cases h3:t.formed=true
   ·simp [h1,h2,h3];omega
   ·simp [h1,h2,h3]
end Go.Abs

namespace Go.Abs
open Go.Proofs
end Go.Abs

namespace Go.Abs
def c27:SCode:=
 .seq (.reg [o_ 1 (.box 63 (.t 0)),o_ 2 (.mv (.k (.int .i64 0)))]) (.seq (.seq (.reg [o_ 3 (.ldn 63 3 (.t 1)),o_ 4 (.call (.f 37) [.t 3]),o_ 5 (.bin .gtr (.t 4) (.k (.int .i64 6000)))]) (.cond (.t 5) (.seq (.reg [o_ 2 (.mv (.k (.int .i64 4)))]) (.ret)) (.skip))) (.seq (.seq (.reg [o_ 6 (.ldn 63 3 (.t 1)),o_ 7 (.call (.f 58) [.t 6]),o_ 8 (.bin .gtr (.t 7) (.k (.int .i64 200)))]) (.cond (.t 8) (.seq (.reg [o_ 2 (.mv (.k (.int .i64 5)))]) (.ret)) (.skip))) (.seq (.seq (.reg [o_ 9 (.ldn 63 3 (.t 1)),o_ 10 (.call (.f 139) [.t 9]),o_ 11 (.not (.t 10))]) (.cond (.t 11) (.seq (.reg [o_ 2 (.mv (.k (.int .i64 1)))]) (.ret)) (.skip))) (.seq (.reg [o_ 2 (.mv (.k (.int .i64 0)))]) (.ret)))))
def r27:List RR:=[.t 2]
theorem ok27:okFn Go.Proofs.Tryz.prog 99 12 c27 r27 1=true:=by kernel_rfl
def c67b0:SCode:=
 .seq (.seq (.reg [m_ 32 3,o_ 33 (.fad 63 2 2 (.t 1)),o_ 34 (.ld1 61 (.t 33)),o_ 35 (.len 61 (.t 34)),o_ 36 (.bin .lss (.t 32) (.t 35))]) (.cond (.t 36) (.skip) (.exit 0))) (.seq (.block 1 (.seq (.reg [o_ 39 (.fad 63 2 2 (.t 1)),o_ 40 (.ld1 61 (.t 39)),m_ 41 3,o_ 42 (.iad 63 3 (.t 40) (.t 41)),o_ 43 (.ldn 63 3 (.t 42)),o_ 44 (.call (.f 139) [.t 43]),o_ 45 (.not (.t 44))]) (.cond (.t 45) (.seq (.reg [o_ 2 (.mv (.k (.bool false)))]) (.ret)) (.skip)))) (.reg [m_ 37 3,o_ 38 (.bin .add (.t 37) (.k (.int .i64 1))),m_ 3 38]))
def c67:SCode:=
 .seq (.reg [o_ 1 (.box 63 (.t 0)),o_ 2 (.mv (.k (.bool false)))]) (.seq (.seq (.dreg [0,1,3,0,8,24,63] [o_ 4 (.fad 63 2 2 (.t 1)),o_ 5 (.ld1 61 (.t 4)),o_ 6 (.len 61 (.t 5)),o_ 7 (.fad 63 0 0 (.t 1)),o_ 8 (.ld1 3 (.t 7)),o_ 9 (.call (.f 172) [.t 8]),o_ 10 (.bin .neq (.t 6) (.t 9))]) (.cond (.t 10) (.seq (.reg [o_ 2 (.mv (.k (.bool false)))]) (.ret)) (.skip))) (.seq (.seq (.reg [o_ 11 (.fad 63 2 2 (.t 1)),o_ 12 (.ld1 61 (.t 11)),o_ 13 (.len 61 (.t 12)),o_ 14 (.bin .eql (.t 13) (.k (.int .i64 0))),m_ 15 14,p_ 16 15 (.fad 63 1 1 (.t 1)),p_ 17 15 (.ld1 3 (.t 16)),p_ 18 15 (.call (.f 173) [.t 17,.k (.int .i64 0),.k (.int .i64 65535)]),p_ 19 15 (.not (.t 18)),o_ 20 (.pick (.t 15) (.t 19) (.k (.bool false))),m_ 21 20,q_ 22 21 (.fad 63 2 2 (.t 1)),q_ 23 21 (.ld1 61 (.t 22)),q_ 24 21 (.len 61 (.t 23)),q_ 25 21 (.bin .gtr (.t 24) (.k (.int .i64 0))),qm_ 26 21 25,
 p_ 27 26 (.fad 63 1 1 (.t 1)),p_ 28 26 (.ld1 3 (.t 27)),p_ 29 26 (.bin .neq (.t 28) (.k (.int .i64 0))),q_ 30 21 (.pick (.t 26) (.t 29) (.k (.bool false))),o_ 31 (.pick (.t 21) (.k (.bool true)) (.t 30))]) (.cond (.t 31) (.seq (.reg [o_ 2 (.mv (.k (.bool false)))]) (.ret)) (.skip))) (.seq (.seq (.reg [o_ 3 (.mv (.k (.int .i64 0)))]) (.block 0 (.loop c67b0))) (.seq (.reg [o_ 2 (.mv (.k (.bool true)))]) (.ret)))))
def r67:List RR:=[.t 2]
theorem ok67:okFn Go.Proofs.Tryz.prog 139 46 c67 r67 1=true:=by kernel_rfl
def c101:SCode:=
 .seq (.reg [o_ 6 (.mv (.k (.bool false)))]) (.seq (.reg [m_ 7 0,m_ 8 1,o_ 9 (.bin .geq (.t 7) (.t 8)),m_ 10 9,pm_ 11 10 0,pm_ 12 10 2,p_ 13 10 (.bin .leq (.t 11) (.t 12)),o_ 14 (.pick (.t 10) (.t 13) (.k (.bool false))),m_ 6 14]) (.ret))
def r101:List RR:=[.t 6]
theorem ok101:okFn Go.Proofs.Tryz.prog 173 15 c101 r101 3=true:=by kernel_rfl
def c114:SCode:=
 .seq (.reg [o_ 2 (.mv (.k (.int .i64 0)))]) (.seq (.seq (.reg [m_ 3 0]) (.block 0 (.seq (.seq (.reg [o_ 5 (.bin .eql (.t 3) (.k (.int .i64 1))),m_ 4 5]) (.cond (.t 4) (.skip) (.seq (.reg [o_ 6 (.bin .eql (.t 3) (.k (.int .i64 2))),m_ 4 6]) (.cond (.t 4) (.skip) (.reg [o_ 7 (.bin .eql (.t 3) (.k (.int .i64 3))),m_ 4 7]))))) (.cond (.t 4) (.seq (.reg [o_ 2 (.mv (.k (.int .i64 0)))]) (.ret)) (.seq (.seq (.reg [o_ 9 (.bin .eql (.t 3) (.k (.int .i64 9))),m_ 8 9]) (.cond (.t 8) (.skip) (.reg [o_ 10 (.bin .eql (.t 3) (.k (.int .i64 10))),m_ 8 10]))) (.cond (.t 8) (.seq (.reg [o_ 2 (.mv (.k (.int .i64 1)))]) (.ret)) (.seq (.seq (.reg [o_ 12 (.bin .eql (.t 3) (.k (.int .i64 4))),m_ 11 12]) (.cond (.t 11) (.skip) (.seq (.reg [o_ 13 (.bin .eql (.t 3) (.k (.int .i64 5))),m_ 11 13]) (.cond (.t 11) (.skip) (.seq (.reg [o_ 14 (.bin .eql (.t 3) (.k (.int .i64 6))),m_ 11 14]) (.cond (.t 11) (.skip)
 (.seq (.reg [o_ 15 (.bin .eql (.t 3) (.k (.int .i64 7))),m_ 11 15]) (.cond (.t 11) (.skip) (.reg [o_ 16 (.bin .eql (.t 3) (.k (.int .i64 12))),m_ 11 16]))))))))) (.cond (.t 11) (.seq (.reg [o_ 2 (.mv (.k (.int .i64 2)))]) (.ret)) (.seq (.seq (.reg [o_ 18 (.bin .eql (.t 3) (.k (.int .i64 8))),m_ 17 18]) (.cond (.t 17) (.skip) (.seq (.reg [o_ 19 (.bin .eql (.t 3) (.k (.int .i64 11))),m_ 17 19]) (.cond (.t 17) (.skip) (.reg [o_ 20 (.bin .eql (.t 3) (.k (.int .i64 13))),m_ 17 20]))))) (.cond (.t 17) (.seq (.reg [o_ 2 (.mv (.k (.int .i64 3)))]) (.ret)) (.skip))))))))))) (.seq (.reg [o_ 2 (.mv (.k (.int .i64 (-1))))]) (.ret)))
def r114:List RR:=[.t 2]
theorem ok114:okFn Go.Proofs.Tryz.prog 172 21 c114 r114 1=true:=by kernel_rfl
end Go.Abs

namespace Go.Abs
open Go.Proofs
set_option maxHeartbeats 4000000 in
theorem fn114 (k:Int):Fn Tryz.prog 172 [ib k] (ib (kidsOf k)):=by
 refine fn_of (base:=114000) ok114 rfl fun σ h0 hr=>?_
 have s0:=h0 0
 rw [slots0] at s0
 simp only [ib] at s0
 clear h0 hr
 unfold c114
 by_cases h1:k=1
 ·subst h1;simp [s0,r114,ib,kidsOf]
 by_cases h2:k=2
 ·subst h2;simp [s0,r114,ib,kidsOf]
 by_cases h3:k=3
 ·subst h3;simp [s0,r114,ib,kidsOf]
 by_cases h9:k=9
 ·subst h9;simp [s0,r114,ib,kidsOf]
 by_cases h10:k=10
 ·subst h10;simp [s0,r114,ib,kidsOf]
 by_cases h8:k=8
 ·subst h8;simp [s0,r114,ib,kidsOf]
 by_cases h11:k=11
 ·subst h11;simp [s0,r114,ib,kidsOf]
 by_cases h13:k=13
 ·subst h13;simp [s0,r114,ib,kidsOf]
 by_cases h4:k=4
 ·subst h4;simp [s0,r114,ib,kidsOf]
 by_cases h5:k=5
 ·subst h5;simp [s0,r114,ib,kidsOf]
 by_cases h6:k=6
 ·subst h6;simp [s0,r114,ib,kidsOf]
 by_cases h7:k=7
 ·subst h7;simp [s0,r114,ib,kidsOf]
 by_cases h12:k=12
 ·subst h12;simp [s0,r114,ib,kidsOf]
 have hk:kidsOf k=-1:=by
  have:¬ (1 ≤ k ∧ k ≤ 13):=by omega
  simp [kidsOf,h1,h2,h3,h9,h10,h8,h11,h13,this]
 simp [s0,h1,h2,h3,h9,h10,h8,h11,h13,h4,h5,h6,h7,h12,r114,ib,hk]
theorem fn101 (x a b:Int):Fn Tryz.prog 173 [ib x,ib a,ib b] (bb (decide (a ≤ x) && decide (x ≤ b))):=by
 refine fn_of (base:=101000) ok101 rfl fun σ h0 hr=>?_
 have s0:=h0 0
 have s1:=h0 1
 have s2:=h0 2
 rw [slots0] at s0
 rw [slots1] at s1
 rw [slots2] at s2
 simp only [ib] at s0 s1 s2
 clear h0 hr
 unfold c101
 simp [s0,s1,s2,r101,bb]
theorem bad_iff {k n:Int} {len:Nat}:badHead k n len=true ↔ ¬ ((len:Int)=kidsOf k ∧ 0 ≤ n ∧ n ≤ 65535 ∧ (0 < len → n=0)):=by
 simp only [badHead,Bool.or_eq_true,Bool.and_eq_true,decide_eq_true_eq,Bool.not_eq_true',decide_eq_false_iff_not]
 omega
theorem fn67 (t:T):Fn Tryz.prog 139 [tm t] (bb t.formed):=by
 induction t using T.ind with
 | h k n ts ih=>
 refine fn_of (base:=67000) ok67 rfl fun σ h0 hr=>?_
 have s0:=h0 0
 rw [slots0] at s0
 have hlen:=real_kids (hr (tm (.mk k n ts)) (by simp))
 rw [kids_mk] at hlen
 simp only [tm,cells_mk] at s0
 clear h0 hr
 unfold c67
 by_cases hk:(ts.length:Int)=kidsOf k
 case neg=>
  have hb:badHead k n ts.length=true:=bad_iff.2 fun h=>hk h.1
  simp [s0]
  refine W_dregA ?_
  simp
  refine CallA.fn (fn114 k) (by simp [ib]) (by simp) rfl ?_
  simp [ib]
  refine realC_n ?_
  simp [hk,r67,bb,T.formed,hb]
 case pos=>
  have c114:=fn114 k
  rw [← hk] at c114
  simp [s0]
  refine W_dregA ?_
  simp
  refine CallA.fn c114 (by simp [ib]) (by simp) rfl ?_
  simp [ib]
  refine realC_n ?_
  simp
  refine GCall.fn (fun _=>fn101 n 0 65535) (by simp [ib]) (by simp) rfl fun _=>?_
  simp [bb,r67]
  constructor
  ·intro hb
   have hb':badHead k n ts.length=true:=bad_iff.2 fun h=>by
    rcases hb with ⟨h1,h2⟩ | ⟨h1,h2⟩
    ·have:=h.2.1;have:=h.2.2.1;omega
    ·exact h2 (h.2.2.2 h1)
   simp [T.formed,hb']
  ·intro hb1 hb2
   have hb':badHead k n ts.length=false:=by
    cases h:badHead k n ts.length with
    | false=>rfl
    | true=>
     exfalso
     refine bad_iff.1 h ⟨hk,?_⟩
     by_cases h0:ts=[]
     ·have:=hb1 h0
      subst h0
      exact ⟨by omega,by omega,fun h=>by simp at h⟩
     ·have:=hb2 (List.length_pos_iff.2 h0)
      exact ⟨by omega,by omega,fun _=>this⟩
   refine W_loop (fun m σ=>∃ i:Nat,i + m=ts.length ∧ T.formedL (ts.drop i)=T.formedL ts ∧ σ.sl 1=.c (.ref 67001 (σ.tg 67001) 0) ∧ σ.ob 67001=some (.box 63 (T.mk k n ts).cells) ∧ σ.sl 3=.c (.v (.int .i64 i))) ts.length ?_ ?_
   ·exact ⟨0,by simp [cells_mk]⟩
   ·rintro m σ ⟨i,hm,hp,q1,qo,q3⟩
    unfold c67b0
    simp only [cells_mk] at qo
    by_cases hi:i < ts.length
    ·obtain ⟨t,ht⟩:=at_of hi
     obtain ⟨_,ht'⟩:=getE ht
     have w1:=wrap_succ (i:=i) (by omega)
     rw [drop_at ht,T.formedL] at hp
     simp [q1,qo,q3,hi,ht']
     refine ECall.fn (ih t (List.mem_of_getElem? ht)) (by simp [tm]) (by simp) rfl fun _=>?_
     simp [bb]
     constructor
     ·intro hd
      simp [T.formed,hb',← hp,hd]
     ·intro hd
      rw [hd,Bool.true_and] at hp
      simp [q3]
      refine ⟨m - 1,by omega,i + 1,by omega,hp,?_⟩
      simp [q1,qo,cells_mk,w1]
    ·simp [q1,qo,q3,hi,T.formed,hb']
     rw [← hp,List.drop_eq_nil_of_le (by omega),T.formedL]
theorem fn27 (t:T):Fn Tryz.prog 99 [tm t] (ib t.check):=by
 refine fn_of (base:=27000) ok27 rfl fun σ h0 hr=>?_
 have s0:=h0 0
 rw [slots0] at s0
 simp only [tm] at s0
 clear h0 hr
 unfold c27
 simp [s0]
 refine ECall.fn (fn28 t) (by simp [tm]) (by simp) rfl fun _=>?_
 simp [ib]
 refine ⟨fun h1=>by simp [r27,h1,T.check],fun h1=>?_⟩
 simp [show ¬ 6000 < t.size by omega]
 refine ECall.fn (fn29 t) (by simp [tm]) (by simp) rfl fun _=>?_
 simp [ib]
 refine ⟨fun h2=>by simp [r27,h2,T.check,show ¬ 6000 < t.size by omega],fun h2=>?_⟩
 simp [show ¬ 200 < t.depth by omega]
 refine ECall.fn (fn67 t) (by simp [tm]) (by simp) rfl fun _=>?_
 simp [bb]
 refine ⟨fun h3=>by simp [r27,h3,T.check,show ¬ 6000 < t.size by omega,show ¬ 200 < t.depth by omega],fun h3=>by simp [r27,h3,T.check,show ¬ 6000 < t.size by omega,show ¬ 200 < t.depth by omega]⟩
end Go.Abs

namespace Go.Abs
open Go.Proofs
end Go.Abs

namespace Go.Abs
def c51:SCode:=
 .seq (.reg [o_ 4 (.mv (.k (.int .i64 0)))]) (.seq (.seq (.reg [m_ 5 1,o_ 6 (.bin .eql (.t 5) (.k (.int .i64 1))),m_ 7 6,pm_ 8 7 0,p_ 9 7 (.bin .eql (.t 8) (.k (.int .i64 4))),pm_ 10 7 9,qm_ 11 10 0,q_ 12 10 (.bin .eql (.t 11) (.k (.int .i64 5))),p_ 13 7 (.pick (.t 10) (.k (.bool true)) (.t 12)),pm_ 14 7 13,qm_ 15 14 0,q_ 16 14 (.bin .eql (.t 15) (.k (.int .i64 7))),p_ 17 7 (.pick (.t 14) (.k (.bool true)) (.t 16)),o_ 18 (.pick (.t 7) (.t 17) (.k (.bool false)))]) (.cond (.t 18) (.seq (.reg [o_ 4 (.mv (.k (.int .i64 1)))]) (.ret)) (.skip))) (.seq (.reg [o_ 4 (.mv (.k (.int .i64 0)))]) (.ret)))
def r51:List RR:=[.t 4]
theorem ok51:okFn Go.Proofs.Tryz.prog 140 19 c51 r51 2=true:=by kernel_rfl
end Go.Abs

namespace Go.Abs
open Go.Proofs
end Go.Abs

namespace Go.Abs
open Go.Proofs
end Go.Abs

namespace Go.Abs
open Go.Proofs
mutual
def T.inS:T → Int → Int → Bool
 | .mk k n ts,a,b=>if k=1 then decide (n < a) else if k=2 then decide (n ≤ 6) else if k=3 then decide (n < b) else T.inSL k a b 0 ts
def T.inSL (k a b:Int):Int → List T → Bool
 | _,[]=>true
 | i,t :: ts=>T.inS t (a + bindsOf k i) b && T.inSL k a b (i + 1) ts
end
theorem within_inS (t:T):∀ a b:Int,0 ≤ a → a + t.count ≤ 4611686018427387 → t.within a b=t.inS a b:=by
 induction t using T.ind with
 | h k n ts ih=>
 intro a b ha hc
 simp only [T.count] at hc
 have key:∀ (ts:List T) (i:Int),(∀ t,t ∈ ts → ∀ a b:Int,0 ≤ a → a + t.count ≤ 4611686018427387 → t.within a b=t.inS a b) → a + 1 + T.countL ts ≤ 4611686018427387 → T.withinL k a b i ts=T.inSL k a b i ts:=by
  intro ts
  induction ts with
  | nil=>intro i _ _;simp [T.withinL,T.inSL]
  | cons t ts ih2=>
   intro i h hc
   simp only [T.countL] at hc
   have hbd:=binds01 k i
   simp only [T.withinL,T.inSL,wrap_dp (k:=k) (i:=i) ha (by omega)]
   rw [ih2 (i + 1) (fun u hu=>h u (by simp [hu])) (by omega),h t (by simp) _ b (by omega) (by omega)]
 simp only [T.within,T.inS]
 rw [key ts 0 ih (by omega)]
theorem head_leaf {k n:Int} {ts:List T} (h:(!badHead k n ts.length)=true) (hk:k=1 ∨ k=2 ∨ k=3):ts=[]:=by
 have:badHead k n ts.length=false:=by simpa using h
 have h2:¬ badHead k n ts.length=true:=by simp [this]
 rw [bad_iff] at h2
 have h3:(ts.length:Int)=kidsOf k:=by omega
 have h4:kidsOf k=0:=by rcases hk with rfl | rfl | rfl <;> rfl
 exact List.length_eq_zero_iff.1 (by omega)
end Go.Abs

namespace Go.Abs
def c60:SCode:=
 .seq (.reg [o_ 1 (.box 63 (.t 0)),o_ 2 (.mv (.nil 1 8))]) (.seq (.reg [o_ 4 (.mkmap true),m_ 3 4]) (.seq (.reg [o_ 5 (.ldn 63 3 (.t 1)),m_ 6 3,o_ 7 (.call (.f 95) [.t 5,.t 6])]) (.seq (.reg [m_ 8 3,o_ 9 (.call (.f 43) [.t 8]),o_ 10 (.call (.f 42) [.t 9]),m_ 2 10]) (.ret))))
def r60:List RR:=[.t 2]
theorem ok60:okFn Go.Proofs.Tryz.prog 61 11 c60 r60 1=true:=by kernel_rfl
def c107b0:SCode:=
 .seq (.reg [o_ 16 (.bin .lss (.t 15) (.t 14))]) (.seq (.cond (.t 16) (.skip) (.exit 0)) (.seq (.block 1 (.seq (.reg [o_ 17 (.iad 63 3 (.t 13) (.t 15)),o_ 18 (.ldn 63 3 (.t 17)),o_ 5 (.alloc 63 [.v (.int .i64 0),.v (.int .i64 0),.cap 3 40 []]),n_ (.stn 63 3 (.t 5) (.t 18))]) (.reg [o_ 19 (.ldn 63 3 (.t 5)),m_ 20 1,o_ 21 (.call (.f 95) [.t 19,.t 20])]))) (.reg [o_ 22 (.bin .add (.t 15) (.k (.int .i64 1))),m_ 15 22])))
def c107:SCode:=
 .seq (.reg [o_ 2 (.box 63 (.t 0))]) (.seq (.seq (.reg [o_ 6 (.fad 63 0 0 (.t 2)),o_ 7 (.ld1 3 (.t 6)),o_ 8 (.bin .eql (.t 7) (.k (.int .i64 3)))]) (.cond (.t 8) (.reg [m_ 9 1,o_ 10 (.fad 63 1 1 (.t 2)),o_ 11 (.ld1 3 (.t 10)),n_ (.mset true (.t 9) (.t 11) (.k (.bool true)))]) (.skip))) (.seq (.reg [o_ 12 (.fad 63 2 2 (.t 2)),o_ 13 (.ld1 61 (.t 12)),o_ 14 (.len 61 (.t 13)),o_ 15 (.mv (.k (.int .i64 0)))]) (.block 0 (.loop c107b0))))
def r107:List RR:=[]
theorem ok107:okFn Go.Proofs.Tryz.prog 95 23 c107 r107 2=true:=by kernel_rfl
end Go.Abs

namespace Go.Abs
open Go.Proofs
def addK (ks:List Int) (n:Int):List Int:=if n ∈ ks then ks else ks ++ [n]
def encK (ks:List Int):List (Int × List Cell):=ks.map fun n=>(n,[.v (.bool true)])
theorem mset_encK (ks:List Int) (n:Int):msetL (encK ks) n [.v (.bool true)]=encK (addK ks n):=by
 unfold msetL
 cases hf:(encK ks).findIdx? (fun p=>p.1 == n) with
 | none=>
  have h:n ∉ ks:=fun h=>by
   have:=List.findIdx?_eq_none_iff.1 hf (n,[.v (.bool true)]) (List.mem_map.2 ⟨n,h,rfl⟩)
   simp at this
  simp [addK,h,encK]
 | some j=>
  obtain ⟨hj,hm,_⟩:=List.findIdx?_eq_some_iff_getElem.1 hf
  have hj2:j < ks.length:=by simpa [encK] using hj
  have e1:(encK ks)[j]=(ks[j],[.v (.bool true)]):=by simp [encK]
  rw [e1] at hm
  have hm:ks[j]=n:=by simpa using hm
  have h:n ∈ ks:=by rw [← hm];exact List.getElem_mem hj2
  simp only [addK,h,if_true]
  apply List.ext_getElem?
  intro i
  rw [List.getElem?_set]
  split
  ·rename_i hi;subst hi
   rw [List.getElem?_eq_getElem hj,e1,hm]
  ·rfl
mutual
def T.cons:T → List Int → List Int
 | .mk k n ts,ks=>T.consL ts (if k=3 then addK ks n else ks)
def T.consL:List T → List Int → List Int
 | [],ks=>ks
 | t :: ts,ks=>T.consL ts (T.cons t ks)
end
def mpO (k tg:Nat) (ks:List Int):Objs:=[(k,tg,.mob true (encK ks))]
theorem mpO_get {k tg k' t:Nat} {ks:List Int} {q:Obj} (h:(mpO k tg ks).lookup k'=some (t,q)):k'=k ∧ t=tg ∧ q=.mob true (encK ks):=by
 simp only [mpO,List.lookup_cons,List.lookup_nil] at h
 split at h
 ·rename_i hk;cases h;exact ⟨by simpa using hk,rfl,rfl⟩
 ·cases h
theorem mpO_self (k tg:Nat) (ks:List Int):(mpO k tg ks).lookup k=some (tg,.mob true (encK ks)):=by simp [mpO]
theorem mpO_kin (k tg:Nat) (ks ks':List Int):Kin (mpO k tg ks) (mpO k tg ks') where
 there k' t q h:=by obtain ⟨rfl,rfl,rfl⟩:=mpO_get h;exact ⟨_,mpO_self _ _ _⟩
 back k' t q h:=by obtain ⟨rfl,rfl,rfl⟩:=mpO_get h;exact ⟨_,mpO_self _ _ _⟩
 data k' t q h:=by obtain ⟨rfl,rfl,rfl⟩:=mpO_get h;rfl
theorem sp107 (t:T):∀ (k tg:Nat) (ks:List Int),¬ (107000 ≤ k ∧ k < 108000) → Spec Tryz.prog 95 [tm t,.c (.mp k tg)] (mpO k tg ks) (.tup []) (mpO k tg (t.cons ks)):=by
 induction t using T.ind with
 | h kd n ts ih=>
 intro k tg ks hk
 refine spec_of (base:=107000) ok107 rfl fun T0 hT hr=>?_
 have hlen:=real_kids (hr (tm (.mk kd n ts)) (by simp))
 rw [kids_mk] at hlen
 have t1:=hT k tg _ (mpO_self _ _ _)
 clear hr hT
 generalize hσ:(⟨slotsOf [tm (.mk kd n ts),.c (.mp k tg)],obsOf (mpO k tg ks),T0⟩:St)=σ
 have s0:σ.sl 0=tm (.mk kd n ts):=by rw [← hσ];rfl
 have s1:σ.sl 1=.c (.mp k tg):=by rw [← hσ];rfl
 have o1:σ.ob k=some (.mob true (encK ks)):=by rw [← hσ];simp [obsOf,mpO_self]
 have g1:σ.tg k=tg:=by rw [← hσ];exact t1
 clear hσ
 simp only [tm,cells_mk] at s0
 have n2:k ≠ 107002:=by omega
 have n5:k ≠ 107005:=by omega
 have fin:∀ (σ':St),σ'.ob k=some (.mob true (encK ((T.mk kd n ts).cons ks))) → σ'.tg k=tg → EndOK (mpO k tg ks) r107 (.tup []) (mpO k tg ((T.mk kd n ts).cons ks)) σ':=fun σ' h1 h2=>by
  refine ⟨by simp [r107],by simp [r107],fun k' t q h=>?_⟩
  obtain ⟨rfl,rfl,rfl⟩:=mpO_get h
  exact ⟨h1,h2,_,mpO_self _ _ _⟩
 have loop:∀ (ks0:List Int) (σ:St),σ.sl 1=.c (.mp k tg) → σ.ob k=some (.mob true (encK ks0)) → σ.tg k=tg → σ.sl 13=.c (.sl 3 40 (ts.map T.cells)) → σ.sl 14=.c (.v (.int .i64 ts.length)) → σ.sl 15=.c (.v (.int .i64 0)) →
   T.consL ts ks0=(T.mk kd n ts).cons ks → W Tryz.prog 107000 (.loop c107b0) σ (onBlock 0 (onEnd (mpO k tg ks) r107 (.tup []) (mpO k tg ((T.mk kd n ts).cons ks)))):=by
  intro ks0 σ q1 qo qg q13 q14 q15 hres
  refine W_loop (fun m σ=>∃ (i:Nat) (ks1:List Int),i + m=ts.length ∧ T.consL (ts.drop i) ks1=T.consL ts ks0 ∧ σ.sl 1=.c (.mp k tg) ∧ σ.ob k=some (.mob true (encK ks1)) ∧ σ.tg k=tg ∧ σ.sl 13=.c (.sl 3 40 (ts.map T.cells)) ∧ σ.sl 14=.c (.v (.int .i64 ts.length)) ∧ σ.sl 15=.c (.v (.int .i64 i))) ts.length ?_ ?_
  ·exact ⟨0,ks0,by simp [q1,qo,qg,q13,q14,q15]⟩
  ·rintro m σ ⟨i,ks1,hm,hp,q1,qo,qg,q13,q14,q15⟩
   unfold c107b0
   by_cases hi:i < ts.length
   ·obtain ⟨t,ht⟩:=at_of hi
    obtain ⟨_,ht'⟩:=getE ht
    have w1:=wrap_succ (i:=i) (by omega)
    rw [drop_at ht,T.consL] at hp
    simp [q1,qo,qg,q13,q14,q15,hi,ht']
    refine ECall.obj (rs:=[]) (args:=[tm t,.c (.mp k tg)]) (by simpa [refs] using ih t (List.mem_of_getElem? ht) k tg ks1 hk) (by simp [tm]) (by simp) (by simp [AV.keys2]) ?_ (mpO_kin _ _ _ _) fun _=>?_
    ·intro k' t' q h
     obtain ⟨rfl,rfl,rfl⟩:=mpO_get h
     simp [n5,qo,qg]
    ·simp [q15]
     refine ⟨m - 1,by omega,i + 1,by omega,_,hp,?_⟩
     simp [q1,qg,q13,q14,w1,n5,puts_some (mpO_self k tg (t.cons ks1))]
   ·rw [List.drop_eq_nil_of_le (by omega),T.consL] at hp
    simp [q1,qo,qg,q13,q14,q15,hi]
    refine fin _ ?_ ?_
    ·simp [qo,hp,hres]
    ·simp [qg]
 unfold c107
 by_cases h3:kd=3
 ·subst h3
  simp [s0,s1,n2,n5,n2.symm,n5.symm,o1,g1,mset_encK]
  refine loop (addK ks n) _ (by simp [s1]) (by simp) (by simp [g1,n2]) (by simp) (by simp) (by simp) (by simp [T.cons])
 ·simp [s0,s1,n2,n5,o1,g1,h3]
  refine loop ks _ (by simp [s1]) (by simp [o1,n2]) (by simp [g1,n2]) (by simp) (by simp) (by simp) (by simp [T.cons,h3])
end Go.Abs

namespace Go.Abs
open Go.Proofs Go.Shelf Go.RowKit Go.Maps Go.Sort
def keysA_ren:Go.Shelf.Ren:=⟨fun | 7=>43 | 10=>64 | n=>n,fun | 23=>76 | 26=>3 | 3=>4 | 28=>79 | 0=>0 | 27=>78 | 33=>75 | 4=>4 | n=>n,fun | n=>n⟩
theorem keysA:Go.Proofs.SlLaysZI.n7 Tryz.prog keysA_ren:={
 mixed:=by kernel_rfl,
 f7:=⟨Tryz.f43.name,by decide,Tryz.func43.trans (congrArg some (by kernel_rfl))⟩,
 f10:=⟨Tryz.f64.name,by decide,Tryz.func64.trans (congrArg some (by kernel_rfl))⟩,
 t0:=Tryz.underlying0,
 a0:=Tryz.isAgg0,
 z0:=Tryz.sizeOf0,
 v0:=Tryz.zeroValue0,
 t4:=Tryz.underlying4,
 a4:=Tryz.isAgg4,
 z4:=Tryz.sizeOf4,
 v4:=Tryz.zeroValue4,
 t23:=Tryz.underlying76,
 a23:=Tryz.isAgg76,
 z23:=Tryz.sizeOf76,
 v23:=Tryz.zeroValue76,
 t26:=Tryz.underlying3,
 a26:=Tryz.isAgg3,
 z26:=Tryz.sizeOf3,
 v26:=Tryz.zeroValue3,
 t27:=Tryz.underlying78,
 a27:=Tryz.isAgg78,
 z27:=Tryz.sizeOf78,
 v27:=Tryz.zeroValue78,
 t28:=Tryz.underlying79,
 a28:=Tryz.isAgg79,
 z28:=Tryz.sizeOf79,
 v28:=Tryz.zeroValue79,
 t33:=Tryz.underlying75,
 a33:=Tryz.isAgg75,
 z33:=Tryz.sizeOf75,
 v33:=Tryz.zeroValue75 }
def sortedA_ren:Go.Shelf.Ren:=⟨fun | 6=>42 | 8=>62 | 9=>63 | 11=>96 | 13=>98 | 12=>97 | 23=>137 | 24=>138 | 14=>128 | 15=>129 | 16=>130 | 17=>131 | 18=>132 | 19=>133 | 20=>134 | 21=>135 | 22=>136 | 25=>166 | 26=>167 | 27=>168 | 28=>169 | 29=>170 | 30=>171 | 31=>186 | n=>n,fun | 26=>3 | 28=>79 | 24=>24 | 0=>0 | 3=>3 | 37=>23 | 48=>156 | 50=>158 | 4=>4 | 40=>150 | 39=>149 | 45=>59 | 5=>5 | 9=>9 | 51=>175 | 55=>179 | 57=>191 | 58=>165 | 33=>75 | n=>n,fun | n=>n⟩
theorem sortedA:Go.Proofs.SlLaysZI.n6 Tryz.prog sortedA_ren:={
 mixed:=by kernel_rfl,
 f6:=⟨Tryz.f42.name,by decide,Tryz.func42.trans (congrArg some (by kernel_rfl))⟩,
 f8:=⟨Tryz.f62.name,by decide,Tryz.func62.trans (congrArg some (by kernel_rfl))⟩,
 f11:=⟨Tryz.f96.name,by decide,Tryz.func96.trans (congrArg some (by kernel_rfl))⟩,
 t0:=Tryz.underlying0,
 a0:=Tryz.isAgg0,
 z0:=Tryz.sizeOf0,
 v0:=Tryz.zeroValue0,
 t24:=Tryz.underlying24,
 a24:=Tryz.isAgg24,
 z24:=Tryz.sizeOf24,
 v24:=Tryz.zeroValue24,
 t26:=Tryz.underlying3,
 a26:=Tryz.isAgg3,
 z26:=Tryz.sizeOf3,
 v26:=Tryz.zeroValue3,
 t28:=Tryz.underlying79,
 a28:=Tryz.isAgg79,
 z28:=Tryz.sizeOf79,
 v28:=Tryz.zeroValue79,
 i26:=by kernel_rfl }
def sortA_ren:Go.Shelf.Ren:=⟨fun | 5=>63 | 8=>98 | 7=>97 | 19=>137 | 20=>138 | 10=>128 | 11=>129 | 12=>130 | 13=>131 | 14=>132 | 15=>133 | 16=>134 | 17=>135 | 18=>136 | 30=>166 | 31=>167 | 32=>168 | 33=>169 | 34=>170 | 35=>171 | 40=>186 | n=>n,fun | 23=>24 | 25=>3 | 3=>3 | 32=>23 | 22=>24 | 0=>0 | 44=>156 | 46=>158 | 4=>4 | 36=>150 | 35=>149 | 41=>59 | 5=>5 | 9=>9 | 53=>175 | 57=>179 | 63=>191 | 64=>165 | n=>n,fun | n=>n⟩
theorem sortA:Go.Proofs.SlLaysM.n5 Tryz.prog sortA_ren:={
 mixed:=by kernel_rfl,
 f5:=⟨Tryz.f63.name,by decide,Tryz.func63.trans (congrArg some (by kernel_rfl))⟩,
 f7:=⟨Tryz.f97.name,by decide,Tryz.func97.trans (congrArg some (by kernel_rfl))⟩,
 f8:=Tryz.func98.trans (congrArg some (by kernel_rfl)),
 f10:=⟨Tryz.f128.name,by decide,Tryz.func128.trans (congrArg some (by kernel_rfl))⟩,
 f11:=⟨Tryz.f129.name,by decide,Tryz.func129.trans (congrArg some (by kernel_rfl))⟩,
 f12:=⟨Tryz.f130.name,by decide,Tryz.func130.trans (congrArg some (by kernel_rfl))⟩,
 f13:=⟨Tryz.f131.name,by decide,Tryz.func131.trans (congrArg some (by kernel_rfl))⟩,
 f14:=⟨Tryz.f132.name,by decide,Tryz.func132.trans (congrArg some (by kernel_rfl))⟩,
 f15:=⟨Tryz.f133.name,by decide,Tryz.func133.trans (congrArg some (by kernel_rfl))⟩,
 f16:=⟨Tryz.f134.name,by decide,Tryz.func134.trans (congrArg some (by kernel_rfl))⟩,
 f17:=⟨Tryz.f135.name,by decide,Tryz.func135.trans (congrArg some (by kernel_rfl))⟩,
 f18:=⟨Tryz.f136.name,by decide,Tryz.func136.trans (congrArg some (by kernel_rfl))⟩,
 f19:=Tryz.func137.trans (congrArg some (by kernel_rfl)),
 f20:=Tryz.func138.trans (congrArg some (by kernel_rfl)),
 f30:=⟨Tryz.f166.name,by decide,Tryz.func166.trans (congrArg some (by kernel_rfl))⟩,
 f31:=Tryz.func167.trans (congrArg some (by kernel_rfl)),
 f32:=Tryz.func168.trans (congrArg some (by kernel_rfl)),
 f33:=⟨Tryz.f169.name,by decide,Tryz.func169.trans (congrArg some (by kernel_rfl))⟩,
 f34:=⟨Tryz.f170.name,by decide,Tryz.func170.trans (congrArg some (by kernel_rfl))⟩,
 f35:=⟨Tryz.f171.name,by decide,Tryz.func171.trans (congrArg some (by kernel_rfl))⟩,
 f40:=⟨Tryz.f186.name,by decide,Tryz.func186.trans (congrArg some (by kernel_rfl))⟩,
 t0:=Tryz.underlying0,
 a0:=Tryz.isAgg0,
 z0:=Tryz.sizeOf0,
 v0:=Tryz.zeroValue0,
 t3:=Tryz.underlying3,
 a3:=Tryz.isAgg3,
 z3:=Tryz.sizeOf3,
 v3:=Tryz.zeroValue3,
 t4:=Tryz.underlying4,
 a4:=Tryz.isAgg4,
 z4:=Tryz.sizeOf4,
 v4:=Tryz.zeroValue4,
 t5:=Tryz.underlying5,
 a5:=Tryz.isAgg5,
 z5:=Tryz.sizeOf5,
 v5:=Tryz.zeroValue5,
 t9:=Tryz.underlying9,
 a9:=Tryz.isAgg9,
 z9:=Tryz.sizeOf9,
 v9:=Tryz.zeroValue9,
 t22:=Tryz.underlying24,
 a22:=Tryz.isAgg24,
 z22:=Tryz.sizeOf24,
 v22:=Tryz.zeroValue24,
 t23:=Tryz.underlying24,
 a23:=Tryz.isAgg24,
 z23:=Tryz.sizeOf24,
 v23:=Tryz.zeroValue24,
 t25:=Tryz.underlying3,
 a25:=Tryz.isAgg3,
 z25:=Tryz.sizeOf3,
 v25:=Tryz.zeroValue3,
 t32:=Tryz.underlying23,
 a32:=Tryz.isAgg23,
 z32:=Tryz.sizeOf23,
 v32:=Tryz.zeroValue23,
 t35:=Tryz.underlying149,
 a35:=Tryz.isAgg149,
 z35:=Tryz.sizeOf149,
 v35:=Tryz.zeroValue149,
 t36:=Tryz.underlying150,
 a36:=Tryz.isAgg150,
 z36:=Tryz.sizeOf150,
 v36:=Tryz.zeroValue150,
 t41:=Tryz.underlying59,
 a41:=Tryz.isAgg59,
 z41:=Tryz.sizeOf59,
 v41:=Tryz.zeroValue59,
 t44:=Tryz.underlying156,
 a44:=Tryz.isAgg156,
 z44:=Tryz.sizeOf156,
 v44:=Tryz.zeroValue156,
 t46:=Tryz.underlying158,
 a46:=Tryz.isAgg158,
 z46:=Tryz.sizeOf158,
 v46:=Tryz.zeroValue158,
 t53:=Tryz.underlying175,
 a53:=Tryz.isAgg175,
 z53:=Tryz.sizeOf175,
 v53:=Tryz.zeroValue175,
 t57:=Tryz.underlying179,
 a57:=Tryz.isAgg179,
 z57:=Tryz.sizeOf179,
 v57:=Tryz.zeroValue179,
 t63:=Tryz.underlying191,
 a63:=Tryz.isAgg191,
 z63:=Tryz.sizeOf191,
 v63:=Tryz.zeroValue191,
 t64:=Tryz.underlying165,
 a64:=Tryz.isAgg165,
 z64:=Tryz.sizeOf165,
 v64:=Tryz.zeroValue165 }
theorem sortsA (m:Nat):AnyZI.SortsIn Tryz.prog sortedA_ren Fence.wide m:=
 ⟨fun blk off cap ss W hH hblk hsz=>callsIn_wide.2 (AnyM.slices_Sort_int sortA blk off cap ss W hH hblk hsz),
 fun p cap W=>callsIn_wide.2 (AnyM.slices_Sort_int_none sortA p cap W)⟩
theorem keys_call (mb:Option Nat) (W:World):Calls Tryz.prog 43 #[.map mb] W fun e w'=>e=.returned (.func (.func 64) #[] #[.pointer (some ⟨W.heap.size,0,none⟩)]) ∧ w'=W.alloc (.cells #[.map mb] 76):=by
 have h:CallsIn Fence.wide 5 Tryz.prog 43 #[.map mb] W fun e w'=>e=.returned (.func (.func 64) #[] #[.pointer (some ⟨W.heap.size,0,none⟩)]) ∧ w'=W.alloc (.cells #[.map mb] 76):=AnyZI.keys_in keysA Fence.wide 5 trivial rfl mb W
 exact callsIn_wide.1 h
theorem sorted_call {H:Type} (B b nn:Nat) (D0:DataW H) (R:Value → Option (DataW H × List MemPlace)) (w:World) (hB:B < w.heap.size) (hm:w.cell? ⟨B,0,none⟩=some (.map (some b))) (hown:w.ownsMap Tryz.prog 3 R b nn D0) (hmax:Maps.size D0 ≤ maxLen) (hbytes:Maps.size D0 * 8 ≤ 140737488355328) :
  Calls Tryz.prog 42 #[.func (.func 64) #[] #[.pointer (some ⟨B,0,none⟩)]] w fun e w'=>∃ (v:Value) (ss:List Int),e=.returned v ∧ ss.Perm (intKeys D0) ∧
   w'.ownsRow w.heap.size 3 1 v ss.length ((ss.mergeSort (fun x y=>decide (x ≤ y))).map encZ) ∧ (v=.slice none 0 0 ↔ ss=[]) ∧ Below w.heap.size w w':=by
 have hseq:SeqGives Fence.wide 2 Tryz.prog 64 #[.pointer (some ⟨B,0,none⟩)] encZ (fun ss=>ss.Perm (intKeys D0)) (Maps.size D0) w:=
  AnyZI.keys_gives (ρ:=keysA_ren) { keysA with } Fence.wide _ trivial rfl (by omega) B b nn D0 _ hB hm hown
 have cS:=AnyZI.sorted_in sortedA Fence.wide 5 trivial trivial trivial trivial rfl (by omega) (sortsA _) (enters_of Tryz.func63 (by kernel_rfl) rfl) 64 #[.pointer (some ⟨B,0,none⟩)] trivial (enters_of Tryz.func64 (by kernel_rfl) rfl) _ _ hmax hbytes _ hseq
 change CallsIn _ _ Tryz.prog 42 _ _ _ at cS
 exact callsIn_wide.1 cS
end Go.Abs

namespace Go.Abs
open Go.Proofs Go.Shelf Go.RowKit Go.Maps Go.Sort
def okI (n:Int):Prop:=-9223372036854775808 ≤ n ∧ n < 9223372036854775808
theorem okI_wf {n:Int} (h:okI n):(Lit.int .i64 n).wf=true:=by
 obtain ⟨h1,h2⟩:=h
 simp [Lit.wf,IntKind.min,IntKind.max,IntKind.bits,IntKind.signed]
 omega
theorem keyOf_int {n:Int} (h:okI n):keyOf Tryz.prog 3 (.int .i64 n)=some (.int .i64 n):=by
 have u:Tryz.prog.underlying 3=some (.int .i64):=Tryz.underlying3
 simp [keyOf,u,mapKey,okI_wf h]
def sortI (ks:List Int):List Int:=ks.mergeSort fun x y=>decide (x ≤ y)
def isL (ks:List Int):List (List Cell):=ks.map fun n=>[.v (.int .i64 n)]
theorem enters109:EntersF Tryz.prog 43:=fun args w=>(enters_of Tryz.func43 (by kernel_rfl) rfl) args w
theorem enters108:EntersF Tryz.prog 42:=fun args w=>(enters_of Tryz.func42 (by kernel_rfl) rfl) args w
theorem one_ins {k tg k' t:Nat} {q q':Obj} (h:List.lookup k' [(k,tg,q)]=some (t,q')):k'=k ∧ t=tg ∧ q'=q:=by
 simp only [List.lookup_cons,List.lookup_nil] at h
 split at h
 ·rename_i hk;cases h;exact ⟨by simpa using hk,rfl,rfl⟩
 ·cases h
theorem sp109 (k tg:Nat) (one:Bool) (es:List (Int × List Cell)):Spec Tryz.prog 43 [.c (.mp k tg)] [(k,tg,.mob one es)] (.c (.itr 64 k tg)) [(k,tg,.mob one es)]:=by
 refine ⟨enters109,fun g w vs hwok hargs hins=>?_⟩
 obtain ⟨hgk,hob⟩:=hins.ok k tg (.mob one es) (by simp)
 obtain ⟨v,hvs,hv⟩:=hargs.get 0 _ rfl
 have hsz:vs.size=1:=by simpa using hargs.length.symm
 have hv2:v=.map (some (g.blk k)):=(hv (by simp)).2.2 hgk.symm
 have hvs':vs=#[.map (some (g.blk k))]:=by
  apply Array.ext
  ·simpa using hsz
  ·intro i h1 h2
   have:i=0:=by simp at h2;exact h2
   subst this
   have h3:vs[0]? = some v:=by simpa using hvs
   rw [Array.getElem?_eq_getElem h1] at h3
   simp at h3
   simp [h3,hv2]
 subst hvs'
 refine (keys_call (some (g.blk k)) w).mono ?_
 rintro e w' ⟨rfl,rfl⟩
 obtain ⟨arr,clock,f1,f2,f3,f4,f5,f6⟩:=hob
 have hlt:g.blk k < w.heap.size:=(Array.getElem?_eq_some_iff.1 f1).1
 let g':Gh:=⟨fun b x=>g.st b x ∨ (b=w.heap.size ∧ x=0),g.blk,g.rv,g.tg⟩
 have hkp:Kp g w g' (w.alloc (.cells #[.map (some (g.blk k))] 76)):=Kp_alloc _ hwok fun _ _ h=>.inl h
 refine ⟨_,g',rfl,
  {res:=fun _=>⟨rfl,Nat.le_of_eq hgk.symm,fun _=>⟨_,rfl,.inr ⟨rfl,rfl⟩,by simp [g']⟩⟩
   obs:=⟨fun k' t q h=>?_,fun k' k'' t t' q q' h h' _ _ _=>(one_ins h).1.trans (one_ins h').1.symm⟩
   kp:=hkp
   wok:=fun b x h=>?_
   os:=rfl,tape:=rfl,out:=rfl,grow:=by rw [size_alloc];omega
   frame:=fun b hb _=>⟨heap_old _ hb,fun x=>⟨fun h=>?_,.inl⟩⟩
   loc:=fun k' t q h ha=>?_
   box:=fun _ _ _ _ _=>⟨rfl,rfl⟩ }⟩
 ·obtain ⟨rfl,rfl,rfl⟩:=one_ins h
  refine ⟨hgk,arr,clock,by rw [show g'.blk k'=g.blk k' from rfl,heap_old _ hlt];exact f1,f2,f3,f4.imp fun p _ x hx=>⟨hx.1,MV.mono hkp hx.2⟩,f5,fun x hx=>?_⟩
  rcases hx with hx | ⟨hx,_⟩
  ·exact f6 x hx
  ·have:g.blk k'=w.heap.size:=hx
   omega
 ·rw [size_alloc]
  rcases h with h | ⟨h,_⟩
  ·have:=hwok b x h;omega
  ·omega
 ·rcases h with h | ⟨h,_⟩
  ·exact h
  ·omega
 ·obtain ⟨rfl,rfl,rfl⟩:=one_ins h
  exact .inl ⟨k',t,.mob one es,by simp,trivial,rfl⟩
theorem sp108 (k tg:Nat) (one:Bool) (es:List (Int × List Cell)) (hes:∀ p,p ∈ es → okI p.1) (hlen:es.length ≤ 1000000000) (kn tn:Nat) (hkn:kn ≠ k) :
  Spec Tryz.prog 42 [.c (.itr 64 k tg)] [(k,tg,.mob one es)] (.c (.own kn tn)) [(kn,tn,.row 3 1 8 (isL (sortI (es.map (·.1))))),(k,tg,.mob one es)]:=by
 refine ⟨enters108,fun g w vs hwok hargs hins=>?_⟩
 obtain ⟨hgk,hob⟩:=hins.ok k tg (.mob one es) (by simp)
 obtain ⟨v,hvs,hv⟩:=hargs.get 0 _ rfl
 have hsz:vs.size=1:=by simpa using hargs.length.symm
 obtain ⟨B,hv2,hst,hcell⟩:=(hv (by simp)).2.2 hgk.symm
 have hvs':vs=#[.func (.func 64) #[] #[.pointer (some ⟨B,0,none⟩)]]:=by
  apply Array.ext
  ·simpa using hsz
  ·intro i h1 h2
   have:i=0:=by simp at h2;exact h2
   subst this
   have h3:vs[0]? = some v:=by simpa using hvs
   rw [Array.getElem?_eq_getElem h1] at h3
   simp at h3
   simp [h3,hv2]
 subst hvs'
 have hBlt:B < w.heap.size:=hwok B 0 hst
 obtain ⟨arr,clock,f1,f2,f3,f4,f5,f6⟩:=hob
 have f4:All2 (ME g w one) es arr.toList:=f4
 have hlt:g.blk k < w.heap.size:=(Array.getElem?_eq_some_iff.1 f1).1
 have hl:=f4.length
 let R:Value → Option (DataW Unit × List MemPlace):=fun _=>some (.nil,[])
 have hkey:∀ (i:Nat) x,arr.toList[i]? = some x → ∃ p,es[i]? = some p ∧ x.key=.int .i64 p.1:=fun i x hx=>by
  have hi:i < es.length:=by rw [hl];exact (List.getElem?_eq_some_iff.1 hx).1
  obtain ⟨y,e1,e2⟩:=f4.get i es[i] (List.getElem?_eq_getElem hi)
  rw [hx] at e1;cases e1
  exact ⟨es[i],List.getElem?_eq_getElem hi,e2.1⟩
 have hkeys:arr.toList.map (·.key)=es.map fun p=>.int .i64 p.1:=by
  apply List.ext_getElem?
  intro i
  rw [List.getElem?_map,List.getElem?_map]
  cases hx:arr.toList[i]? with
  | none=>
   have:es[i]? = none:=by rw [List.getElem?_eq_none_iff] at hx ⊢;omega
   simp [this]
  | some x=>
   obtain ⟨p,h1,h2⟩:=hkey i x hx
   simp [h1,h2]
 have hrd:∀ (i:Nat) x,arr.toList[i]? = some x → ∃ p,es[i]? = some p ∧ Go.WideElems.rd Tryz.prog 3 R x=some (.int .i64 p.1,.nil):=fun i x hx=>by
  obtain ⟨p,h1,h2⟩:=hkey i x hx
  refine ⟨p,h1,?_⟩
  simp [Go.WideElems.rd,h2,keyOf_int (hes p (List.mem_of_getElem? h1)),R]
 have hfit:Go.WideElems.Fit Tryz.prog 3 R arr clock:=
  {size:=by
    have:arr.size=es.length:=by simpa using hl.symm
    rw [this];simp only [maxLen];omega
   stamped:=⟨f2,f3,by
    rw [hkeys]
    have:(es.map fun p=>Value.int .i64 p.1)=(es.map (·.1)).map (Value.int .i64):=by simp
    rw [this]
    exact List.Pairwise.map _ (fun a b hab h=>hab (by cases h;rfl)) f5⟩
   reads:=fun x hx=>by
    obtain ⟨i,hi⟩:=List.getElem?_of_mem hx
    obtain ⟨p,_,h⟩:=hrd i x hi
    exact ⟨_,h⟩ }
 let E:List (Lit × DataW Unit):=arr.toList.map (Go.WideElems.rg Tryz.prog 3 R)
 have hE:E=es.map fun p=>(.int .i64 p.1,.nil):=by
  apply List.ext_getElem?
  intro i
  simp only [E]
  rw [List.getElem?_map,List.getElem?_map]
  cases hx:arr.toList[i]? with
  | none=>
   have:es[i]? = none:=by rw [List.getElem?_eq_none_iff] at hx ⊢;omega
   simp [this]
  | some x=>
   obtain ⟨p,h1,h2⟩:=hrd i x hx
   simp [h1,Go.WideElems.rg,h2]
 have hown:w.ownsMap Tryz.prog 3 R (g.blk k) arr.size (.map (E.foldr DataW.insert [])):=⟨arr,clock,f1,hfit,Nat.le_refl _,rfl⟩
 have hperm:=Go.WideShapes.sorted_perm E
 have hsize:Maps.size (DataW.map (E.foldr DataW.insert []))=es.length:=by
  rw [Maps.size_eq,hperm.length_eq,hE];simp
 have hik:(intKeys (DataW.map (E.foldr DataW.insert []))).Perm (es.map (·.1)):=by
  show ((E.foldr DataW.insert []).map fun p=>intOf p.1).Perm _
  refine (hperm.map _).trans ?_
  rw [hE,List.map_map]
  exact List.Perm.of_eq (List.map_congr_left fun p _=>rfl)
 refine (sorted_call (H:=Unit) B (g.blk k) arr.size _ R w hBlt hcell hown (by rw [hsize];simp only [maxLen];omega) (by rw [hsize];omega)).mono ?_
 rintro e w' ⟨v,ss,rfl,hp,hrow,hnil,hbel⟩
 have hss:ss.mergeSort (fun x y=>decide (x ≤ y))=sortI (es.map (·.1)):=mergeSort_of_perm_i (hp.trans hik)
 rw [hss] at hrow
 have hn:ss.length=(sortI (es.map (·.1))).length:=by
  have:=hrow.1
  simp at this
  omega
 have hn2:(sortI (es.map (·.1))).length=es.length:=by simp [sortI,(List.mergeSort_perm _ _).length_eq]
 have hK:Kp g w g w':=⟨fun ad h=>⟨h,World.cell?_of_block (hbel.block _ (hwok _ _ h))⟩⟩
 -- the row's block
 obtain ⟨gb,hgb⟩:∃ gb:Nat,w.heap.size ≤ gb ∧ ((v=.slice none 0 0 ∧ ss.length=0) ∨ ∃ cap cur,v=.slice (some ⟨gb,0,none⟩) ss.length cap ∧ w'.heap[gb]? = some (.cells cur 3 (0,0)) ∧ ss.length ≤ cap ∧ cur.size=cap ∧ cur.toList.take ss.length=(sortI (es.map (·.1))).map encZ):=by
  rcases hrow.2 with h | ⟨gb,cap,cur,h1,h2,h3,h4,h5,h6,h7⟩
  ·exact ⟨w.heap.size,Nat.le_refl _,.inl h⟩
  ·exact ⟨gb,h2,.inr ⟨cap,cur,h1,h3,h4,by omega,by simpa using h7⟩⟩
 obtain ⟨hge,hcase⟩:=hgb
 let N:=ss.length
 let g':Gh:=⟨fun b x=>g.st b x ∨ (b=gb ∧ x < N ∧ N ≠ 0),fun q=>if q=kn then gb else g.blk q,fun q=>if q=kn then v else g.rv q,fun q=>if q=kn then tn else g.tg q⟩
 have hKp:Kp g w g' w':=⟨fun ad h=>⟨.inl h,(hK.keep ad h).2⟩⟩
 have hgkn:g'.rv kn=v ∧ g'.blk kn=gb ∧ g'.tg kn=tn:=by simp [g']
 have hgo:∀ q,q ≠ kn → g'.rv q=g.rv q ∧ g'.blk q=g.blk q ∧ g'.tg q=g.tg q:=fun q hq=>by simp [g',hq]
 have two:∀ {k' t:Nat} {q:Obj},List.lookup k' [(kn,tn,Obj.row 3 1 8 (isL (sortI (es.map (·.1))))),(k,tg,.mob one es)]=some (t,q) → (k'=kn ∧ t=tn ∧ q=.row 3 1 8 (isL (sortI (es.map (·.1))))) ∨ (k'=k ∧ t=tg ∧ q=.mob one es):=by
  intro k' t q h
  simp only [List.lookup_cons,List.lookup_nil] at h
  split at h
  ·rename_i hk;cases h;exact .inl ⟨by simpa using hk,rfl,rfl⟩
  ·split at h
   ·rename_i hk;cases h;exact .inr ⟨by simpa using hk,rfl,rfl⟩
   ·cases h
 have hvf:∃ a c,v=.slice a N c:=by
  rcases hcase with ⟨h1,h2⟩ | ⟨cap,cur,h1,_⟩
  ·exact ⟨none,0,by rw [h1];simp [N,h2]⟩
  ·exact ⟨_,_,h1⟩
 have hRD:RD g' w' (.sl 1 8 (isL (sortI (es.map (·.1))))) v:=by
  have hll:(isL (sortI (es.map (·.1)))).length=N:=by simp [isL,N,hn]
  rcases hcase with ⟨h1,h2⟩ | ⟨cap,cur,h1,h3,h4,h5,h6⟩
  ·have:isL (sortI (es.map (·.1)))=[]:=List.length_eq_zero_iff.1 (by rw [hll];exact h2)
   rw [this,h1]
   exact .sl 1 8 [] none 0 (fun _ _=>undef) (Nat.le_refl _) (by simp [room]) (by simp) (by simp) (by simp)
  ·rw [h1,show ss.length=N from rfl,← hll]
   have hget:∀ i l,(isL (sortI (es.map (·.1))))[i]? = some l → ∃ n,l=[.v (.int .i64 n)] ∧ i < N ∧ cur[i]? = some (.int .i64 n):=fun i l hi=>by
    simp only [isL,List.getElem?_map] at hi
    cases hx:(sortI (es.map (·.1)))[i]? with
    | none=>rw [hx] at hi;cases hi
    | some n=>
     rw [hx] at hi;cases hi
     have hiN:i < N:=by
      have:=(List.getElem?_eq_some_iff.1 hx).1
      simp only [N];omega
     refine ⟨n,rfl,hiN,?_⟩
     have h7:(cur.toList.take ss.length)[i]? = some (encZ n):=by rw [h6,List.getElem?_map,hx];rfl
     rw [List.getElem?_take_of_lt hiN] at h7
     simpa [encZ] using h7
   refine .sl 1 8 _ (some ⟨gb,0,none⟩) cap (fun i _=>(cur[i]?).getD undef) (by rw [hll];exact h4) (by rw [hll];simp only [room,N];omega) (fun l hl=>?_) (fun i j l d e1 e2=>?_) (fun i j l d e1 e2=>?_)
   ·simp only [isL,List.mem_map] at hl
    obtain ⟨n,_,rfl⟩:=hl;rfl
   ·obtain ⟨n,rfl,hi,hc⟩:=hget i l e1
    have hj:j=0:=by have:=(List.getElem?_eq_some_iff.1 e2).1;simp at this;exact this
    subst hj
    refine ⟨_,rfl,?_,?_⟩
    ·rw [add_blk]
     refine .inr ⟨rfl,?_,by omega⟩
     show 0 + (i * 1 + 0) < N
     omega
    ·rw [add_blk,cell_blk h3]
     simp [hc]
   ·obtain ⟨n,rfl,hi,hc⟩:=hget i l e1
    have hj:j=0:=by have:=(List.getElem?_eq_some_iff.1 e2).1;simp at this;exact this
    subst hj
    simp at e2;subst e2
    rw [hc]
    exact .v _ rfl
 refine ⟨v,g',rfl,
  {res:=fun _=>⟨?_,Nat.le_of_eq hgkn.2.2.symm,fun _=>⟨hgkn.1.symm,?_⟩⟩
   obs:=⟨fun k' t q h=>?_,fun k' k'' t t' q q' h h' ha ha' hb=>?_⟩
   kp:=hKp
   wok:=fun b x h=>?_
   os:=hbel.os,tape:=hbel.tape,out:=hbel.output,grow:=hbel.size
   frame:=fun b hb _=>⟨hbel.block b hb,fun x=>⟨fun h=>?_,.inl⟩⟩
   loc:=fun k' t q h ha=>?_
   box:=fun k' t _ ⟨q,h⟩ _=>?_ }⟩
 ·obtain ⟨a,c,h⟩:=hvf;rw [h];rfl
 ·obtain ⟨a,c,h⟩:=hvf;exact ⟨a,N,c,h⟩
 ·rcases two h with ⟨rfl,rfl,rfl⟩ | ⟨rfl,rfl,rfl⟩
  ·refine ⟨hgkn.2.2,by rw [hgkn.1];exact hRD,fun a n c h1 h2=>?_⟩
   rw [hgkn.1] at h1
   rcases hcase with ⟨h3,h4⟩ | ⟨cap,cur,h3,h4,h5,h6,h7⟩
   ·rw [h3] at h1;cases h1;omega
   ·rw [h3] at h1;cases h1
    refine ⟨by rw [hgkn.2.1],⟨cur,by rw [hgkn.2.1];exact h4,by omega⟩,fun x hx=>?_⟩
    rw [hgkn.2.1] at hx
    rcases hx with hx | hx
    ·have:=hwok _ _ hx;omega
    ·have:=hx.2.1;simp only [N] at this;omega
  ·obtain ⟨e1,e2,e3⟩:=hgo k' (fun e=>hkn e.symm)
   refine ⟨by rw [e3];exact hgk,arr,clock,by rw [e2,hbel.block _ hlt];exact f1,f2,f3,f4.imp fun p _ x hx=>⟨hx.1,MV.mono hKp hx.2⟩,f5,fun x hx=>?_⟩
   rw [e2] at hx
   rcases hx with hx | hx
   ·exact f6 x hx
   ·have:=hx.1;omega
 ·rcases two h with ⟨rfl,rfl,rfl⟩ | ⟨rfl,rfl,rfl⟩ <;> rcases two h' with ⟨rfl,rfl,rfl⟩ | ⟨rfl,rfl,rfl⟩
  ·rfl
  ·rw [hgkn.2.1,(hgo k'' (fun e=>hkn e.symm)).2.1] at hb;omega
  ·rw [hgkn.2.1,(hgo k' (fun e=>hkn e.symm)).2.1] at hb;omega
  ·rfl
 ·rcases h with h | ⟨rfl,h1,h2⟩
  ·exact Nat.lt_of_lt_of_le (hwok b x h) hbel.size
  ·rcases hcase with ⟨h3,h4⟩ | ⟨cap,cur,h3,h4,_⟩
   ·exact absurd h4 h2
   ·exact (Array.getElem?_eq_some_iff.1 h4).1
 ·rcases h with h | ⟨h,_⟩
  ·exact h
  ·omega
 ·rcases two h with ⟨rfl,rfl,rfl⟩ | ⟨rfl,rfl,rfl⟩
  ·rw [hgkn.2.1];exact .inr hge
  ·rw [(hgo k' (fun e=>hkn e.symm)).2.1]
   exact .inl ⟨k',t,.mob one es,by simp,trivial,rfl⟩
 ·obtain ⟨rfl,rfl,rfl⟩:=one_ins h
  exact ⟨(hgo k' (fun e=>hkn e.symm)).2.1,(hgo k' (fun e=>hkn e.symm)).1⟩
end Go.Abs

namespace Go.Abs
open Go.Proofs
theorem puts_same {σ:St} {k t:Nat} {q:Obj} (h:σ.ob k=some q):σ.puts [(k,t,q)]=σ:=by
 refine st_ext (fun s=>rfl) (fun k'=>?_) fun k'=>rfl
 simp only [St.puts]
 cases e:List.lookup k' [(k,t,q)] with
 | none=>rfl
 | some x=>
  obtain ⟨t',q'⟩:=x
  obtain ⟨rfl,rfl,rfl⟩:=one_ins e
  exact h.symm
theorem ECall.keys {σ:St} {d k tg:Nat} {one:Bool} {es:List (Int × List Cell)} {K:St → Prop} (ho:σ.ob k=some (.mob one es)) (ht:σ.tg k=tg) (hK:K (σ.set d (.c (.itr 64 k tg)))) :
  ECall Tryz.prog σ (.c (.clo 43 [] [])) [.c (.mp k tg)] (some d) K:=by
 refine ⟨43,[],[],[(k,tg,.mob one es)],[(k,tg,.mob one es)],.c (.itr 64 k tg),[],_,?_,.inl rfl,fun _=>?_⟩
 ·exact
   {c0:=rfl,gf:=trivial,gx:=by simp
    cs:=fun _=>by simpa [refs,toD2,toD1] using sp109 k tg one es
    ci:=fun k' t q h=>by obtain ⟨rfl,rfl,rfl⟩:=one_ins h;exact ⟨ho,ht,by simp⟩
    co:=fun k' t q h=>by obtain ⟨rfl,rfl,rfl⟩:=one_ins h;exact .inr ⟨by simp,ht.symm,_,h⟩
    cp:=fun k h=>by simp at h
    kres:=fun k' h=>by simp at h;subst h;simp
    kobs:=fun k' t q h=>by obtain ⟨rfl,rfl,rfl⟩:=one_ins h;intro k h;simp [Obj.keys] at h }
 ·rw [ap_puts,puts_same ho];exact hK
theorem ECall.sorted {σ:St} {d k tg:Nat} {one:Bool} {es:List (Int × List Cell)} {K:St → Prop} (kn:Nat) (ho:σ.ob k=some (.mob one es)) (ht:σ.tg k=tg) (hne:kn ≠ k) (hes:∀ p,p ∈ es → okI p.1) (hlen:es.length ≤ 1000000000)
  (hK:K ((σ.new kn (.row 3 1 8 (isL (sortI (es.map (·.1)))))).set d (.c (.own kn (σ.tg kn + 1))))) :
  ECall Tryz.prog σ (.c (.clo 42 [] [])) [.c (.itr 64 k tg)] (some d) K:=by
 have two:∀ {k' t:Nat} {q:Obj},List.lookup k' [(kn,σ.tg kn + 1,Obj.row 3 1 8 (isL (sortI (es.map (·.1))))),(k,tg,.mob one es)]=some (t,q) → (k'=kn ∧ t=σ.tg kn + 1 ∧ q=.row 3 1 8 (isL (sortI (es.map (·.1))))) ∨ (k'=k ∧ t=tg ∧ q=.mob one es):=by
  intro k' t q h
  simp only [List.lookup_cons,List.lookup_nil] at h
  split at h
  ·rename_i hk;cases h;exact .inl ⟨by simpa using hk,rfl,rfl⟩
  ·split at h
   ·rename_i hk;cases h;exact .inr ⟨by simpa using hk,rfl,rfl⟩
   ·cases h
 have hkb:(k == kn)=false:=by simpa using fun h:k=kn=>hne h.symm
 refine ⟨42,[],[],[(k,tg,.mob one es)],[(kn,σ.tg kn + 1,.row 3 1 8 (isL (sortI (es.map (·.1))))),(k,tg,.mob one es)],.c (.own kn (σ.tg kn + 1)),[kn],_,?_,.inl rfl,fun _=>?_⟩
 ·exact
   {c0:=rfl,gf:=trivial,gx:=by simp
    cs:=fun _=>by simpa [refs,toD2,toD1] using sp108 k tg one es hes hlen kn (σ.tg kn + 1) hne
    ci:=fun k' t q h=>by obtain ⟨rfl,rfl,rfl⟩:=one_ins h;exact ⟨ho,ht,by simp [List.lookup_cons,hkb]⟩
    co:=fun k' t q h=>by
     rcases two h with ⟨rfl,rfl,rfl⟩ | ⟨rfl,rfl,rfl⟩
     ·exact .inl ⟨by simp,rfl⟩
     ·exact .inr ⟨by simpa using fun h:k'=kn=>hne h.symm,ht.symm,.mob one es,by simp⟩
    cp:=fun k h=>by simp at h;subst h;simp
    kres:=fun k' h=>by simp at h;subst h;simp
    kobs:=fun k' t q h=>by
     intro k2 hk2
     rcases two h with ⟨rfl,rfl,rfl⟩ | ⟨rfl,rfl,rfl⟩ <;> simp [Obj.keys] at hk2 }
 ·have e:σ.ap (some d) ⟨.c (.own kn (σ.tg kn + 1)),[kn],objsOf [(kn,σ.tg kn + 1,.row 3 1 8 (isL (sortI (es.map (·.1))))),(k,tg,.mob one es)],[(k,tg,Obj.mob one es)].map (·.1)⟩=(σ.new kn (.row 3 1 8 (isL (sortI (es.map (·.1)))))).set d (.c (.own kn (σ.tg kn + 1))):=by
   refine st_ext (fun s=>rfl) (fun k'=>?_) fun k'=>?_
   ·simp only [St.ap,obAfter,objsOf,List.map_cons,List.map_nil,List.lookup_cons,List.lookup_nil,set_ob,new_ob]
    by_cases h1:k'=kn
    ·simp [h1]
    ·have h1':(k' == kn)=false:=by simpa using h1
     simp only [h1',h1,if_false]
     by_cases h2:k'=k
     ·subst h2;simp [ho]
     ·have h2':(k' == k)=false:=by simpa using h2
      simp [h2',h1]
   ·simp only [St.ap,set_tg,new_tg]
    by_cases h1:k'=kn <;> simp [h1]
  rw [e];exact hK
theorem addK_len (ks:List Int) (n:Int):(addK ks n).length ≤ ks.length + 1:=by simp only [addK];split <;> simp
theorem addK_mem {ks:List Int} {n m:Int}:m ∈ addK ks n ↔ m ∈ ks ∨ m=n:=by
 simp only [addK];split
 ·rename_i h;constructor
  ·exact .inl
  ·rintro (h2 | rfl)
   ·exact h2
   ·exact h
 ·simp
theorem addK_nodup {ks:List Int} {n:Int} (h:ks.Nodup):(addK ks n).Nodup:=by
 simp only [addK];split
 ·exact h
 ·rename_i hn
  rw [List.nodup_append]
  refine ⟨h,by simp,fun a ha b hb=>?_⟩
  simp at hb;subst hb
  exact fun e=>hn (e ▸ ha)
theorem cons_facts (t:T):∀ ks:List Int,(t.cons ks).length ≤ ks.length + t.count ∧ (ks.Nodup → (t.cons ks).Nodup) ∧ (t.wf=true → (∀ n,n ∈ ks → okI n) → ∀ n,n ∈ t.cons ks → okI n):=by
 induction t using T.ind with
 | h k n ts ih=>
 intro ks
 have key:∀ (ts:List T) (ks:List Int),(∀ t,t ∈ ts → ∀ ks:List Int,(t.cons ks).length ≤ ks.length + t.count ∧ (ks.Nodup → (t.cons ks).Nodup) ∧ (t.wf=true → (∀ n,n ∈ ks → okI n) → ∀ n,n ∈ t.cons ks → okI n)) →
   (T.consL ts ks).length ≤ ks.length + T.countL ts ∧ (ks.Nodup → (T.consL ts ks).Nodup) ∧ (T.wfL ts=true → (∀ n,n ∈ ks → okI n) → ∀ n,n ∈ T.consL ts ks → okI n):=by
  intro ts
  induction ts with
  | nil=>intro ks _;simp [T.consL,T.countL]
  | cons t ts ih2=>
   intro ks h
   obtain ⟨a1,a2,a3⟩:=h t (by simp) ks
   obtain ⟨b1,b2,b3⟩:=ih2 (t.cons ks) fun u hu=>h u (by simp [hu])
   simp only [T.consL,T.countL,T.wfL,Bool.and_eq_true]
   exact ⟨by omega,fun h=>b2 (a2 h),fun h h2=>b3 h.2 (a3 h.1 h2)⟩
 obtain ⟨b1,b2,b3⟩:=key ts (if k=3 then addK ks n else ks) ih
 have hl:=addK_len ks n
 simp only [T.cons,T.count,T.wf,Bool.and_eq_true,decide_eq_true_eq]
 refine ⟨?_,fun h=>b2 ?_,fun h h2=>b3 h.2 ?_⟩
 ·refine Nat.le_trans b1 ?_
  split <;> omega
 ·split
  ·exact addK_nodup h
  ·exact h
 ·intro m hm
  split at hm
  ·rcases addK_mem.1 hm with hm | rfl
   ·exact h2 m hm
   ·exact h.1
  ·exact h2 m hm
def T.consts (t:T):List Int:=sortI (t.cons [])
theorem encK_keys (ks:List Int):(encK ks).map (·.1)=ks:=by simp [encK,Function.comp_def]
theorem sp60 (t:T) (hc:t.count ≤ 1048576) (hw:t.wf=true):SpecNew Tryz.prog 61 [tm t] (.c (.own 0 0)) (.row 3 1 8 (isL t.consts)):=by
 refine new_of (base:=60000) 60010 ok60 rfl rfl rfl fun σ h0 hr=>?_
 have s0:=h0 0
 rw [slots0] at s0
 simp only [tm] at s0
 clear h0 hr
 obtain ⟨f1,f2,f3⟩:=cons_facts t []
 unfold c60
 simp [s0]
 refine ECall.obj (rs:=[]) (args:=[tm t,.c (.mp 60004 (σ.tg 60004 + 1))]) (by simpa [refs] using sp107 t 60004 (σ.tg 60004 + 1) [] (by omega)) (by simp [tm]) (by simp) (by simp [AV.keys2]) ?_ (mpO_kin _ _ _ _) fun _=>?_
 ·intro k' t' q h
  obtain ⟨rfl,rfl,rfl⟩:=mpO_get h
  simp [encK]
 ·simp
  refine ECall.keys (k:=60004) (one:=true) (es:=encK (t.cons [])) (by simp [puts_some (mpO_self 60004 (σ.tg 60004 + 1) (t.cons []))]) (by simp) ?_
  simp
  refine ECall.sorted 60010 (k:=60004) (one:=true) (es:=encK (t.cons [])) (by simp [puts_some (mpO_self 60004 (σ.tg 60004 + 1) (t.cons []))]) (by simp) (by omega) ?_ ?_ ?_
  ·intro p hp
   obtain ⟨n,hn,rfl⟩:=List.mem_map.1 hp
   exact f3 hw (by simp) n hn
  ·simp [encK]
   simp at f1
   omega
  ·simp
   refine ⟨_,.refl _,?_,?_,?_⟩
   ·simp [r60]
   ·simp [resN,resLN,rrEvN,r60]
   ·simp [encK_keys,T.consts]
end Go.Abs

namespace Go.Abs
def c58:SCode:=
 .seq (.reg [o_ 3 (.box 63 (.t 0)),o_ 6 (.mv (.k (.bool false)))]) (.seq (.reg [m_ 7 1,o_ 8 (.bin .geq (.t 7) (.k (.int .i64 0))),m_ 9 8,pm_ 10 9 2,p_ 11 9 (.bin .geq (.t 10) (.k (.int .i64 0))),o_ 12 (.pick (.t 9) (.t 11) (.k (.bool false))),m_ 13 12,p_ 14 13 (.ldn 63 3 (.t 3)),p_ 15 13 (.call (.f 99) [.t 14]),p_ 16 13 (.bin .eql (.t 15) (.k (.int .i64 0))),o_ 17 (.pick (.t 13) (.t 16) (.k (.bool false))),m_ 18 17,p_ 19 18 (.ldn 63 3 (.t 3)),pm_ 20 18 1,p_ 21 18 (.best false [.t 20,.k (.int .i64 1048576)]),pm_ 22 18 2,p_ 23 18 (.call (.f 100) [.t 19,.t 21,.t 22]),o_ 24 (.pick (.t 18) (.t 23) (.k (.bool false))),m_ 6 24]) (.ret))
def r58:List RR:=[.t 6]
theorem ok58:okFn Go.Proofs.Tryz.prog 69 25 c58 r58 3=true:=by kernel_rfl
def c59b0:SCode:=
 .seq (.seq (.reg [m_ 11 5,m_ 12 0,o_ 13 (.len 24 (.t 12)),o_ 14 (.bin .lss (.t 11) (.t 13))]) (.cond (.t 14) (.skip) (.exit 0))) (.seq (.block 1 (.seq (.dreg [0,0,3,7,0,0,48,112,255] [m_ 17 0,m_ 18 5,o_ 19 (.iad 3 1 (.t 17) (.t 18)),o_ 20 (.ld1 3 (.t 19)),m_ 21 1,m_ 22 5,o_ 23 (.iad 3 1 (.t 21) (.t 22)),o_ 24 (.ld1 3 (.t 23)),o_ 25 (.bin .neq (.t 20) (.t 24))]) (.cond (.t 25) (.seq (.reg [o_ 4 (.mv (.k (.bool false)))]) (.ret)) (.skip)))) (.reg [m_ 15 5,o_ 16 (.bin .add (.t 15) (.k (.int .i64 1))),m_ 5 16]))
def c59:SCode:=
 .seq (.reg [o_ 4 (.mv (.k (.bool false)))]) (.seq (.seq (.reg [m_ 6 0,o_ 7 (.len 24 (.t 6)),m_ 8 1,o_ 9 (.len 24 (.t 8)),o_ 10 (.bin .neq (.t 7) (.t 9))]) (.cond (.t 10) (.seq (.reg [o_ 4 (.mv (.k (.bool false)))]) (.ret)) (.skip))) (.seq (.seq (.reg [o_ 5 (.mv (.k (.int .i64 0)))]) (.block 0 (.loop c59b0))) (.seq (.reg [o_ 4 (.mv (.k (.bool true)))]) (.ret))))
def r59:List RR:=[.t 4]
theorem ok59:okFn Go.Proofs.Tryz.prog 15 26 c59 r59 2=true:=by kernel_rfl
def c61b0:SCode:=
 .seq (.seq (.reg [m_ 27 6,m_ 28 5,o_ 29 (.len 24 (.t 28)),o_ 30 (.bin .lss (.t 27) (.t 29))]) (.cond (.t 30) (.skip) (.exit 2))) (.seq (.block 3 (.reg [m_ 33 3,m_ 34 5,m_ 35 6,o_ 36 (.iad 3 1 (.t 34) (.t 35)),o_ 37 (.ld1 3 (.t 36)),o_ 38 (.call (.f 51) [.t 33,.t 37]),m_ 3 38])) (.reg [m_ 31 6,o_ 32 (.bin .add (.t 31) (.k (.int .i64 1))),m_ 6 32]))
def c61b1:SCode:=
 .seq (.seq (.reg [m_ 14 4,o_ 15 (.fad 63 2 2 (.t 1)),o_ 16 (.ld1 61 (.t 15)),o_ 17 (.len 61 (.t 16)),o_ 18 (.bin .lss (.t 14) (.t 17))]) (.cond (.t 18) (.skip) (.exit 0))) (.seq (.block 1 (.seq (.reg [o_ 21 (.fad 63 2 2 (.t 1)),o_ 22 (.ld1 61 (.t 21)),m_ 23 4,o_ 24 (.iad 63 3 (.t 22) (.t 23)),o_ 25 (.ldn 63 3 (.t 24)),o_ 26 (.call (.f 50) [.t 25]),m_ 5 26]) (.seq (.reg [o_ 6 (.mv (.k (.int .i64 0)))]) (.block 2 (.loop c61b0))))) (.reg [m_ 19 4,o_ 20 (.bin .add (.t 19) (.k (.int .i64 1))),m_ 4 20]))
def c61:SCode:=
 .seq (.reg [o_ 1 (.box 63 (.t 0)),o_ 2 (.mv (.nil 1 8))]) (.seq (.reg [o_ 3 (.mv (.nil 1 8))]) (.seq (.seq (.reg [o_ 7 (.fad 63 0 0 (.t 1)),o_ 8 (.ld1 3 (.t 7)),o_ 9 (.bin .eql (.t 8) (.k (.int .i64 3)))]) (.cond (.t 9) (.reg [m_ 10 3,o_ 11 (.fad 63 1 1 (.t 1)),o_ 12 (.ld1 3 (.t 11)),o_ 13 (.call (.f 51) [.t 10,.t 12]),m_ 3 13]) (.skip))) (.seq (.seq (.reg [o_ 4 (.mv (.k (.int .i64 0)))]) (.block 0 (.loop c61b1))) (.seq (.reg [m_ 39 3,m_ 2 39]) (.ret)))))
def r61:List RR:=[.t 2]
theorem ok61:okFn Go.Proofs.Tryz.prog 50 40 c61 r61 1=true:=by kernel_rfl
def c106b0:SCode:=
 .seq (.seq (.reg [m_ 27 7,o_ 28 (.fad 63 2 2 (.t 3)),o_ 29 (.ld1 61 (.t 28)),o_ 30 (.len 61 (.t 29)),o_ 31 (.bin .lss (.t 27) (.t 30))]) (.cond (.t 31) (.skip) (.exit 1))) (.seq (.block 2 (.seq (.dreg [0,1,0,7,15,0,0,64,0,448,992,0,4095,8191] [o_ 34 (.fad 63 2 2 (.t 3)),o_ 35 (.ld1 61 (.t 34)),m_ 36 7,o_ 37 (.iad 63 3 (.t 35) (.t 36)),o_ 38 (.ldn 63 3 (.t 37)),m_ 39 1,o_ 40 (.fad 63 0 0 (.t 3)),o_ 41 (.ld1 3 (.t 40)),m_ 42 7,o_ 43 (.call (.f 140) [.t 41,.t 42]),o_ 44 (.bin .add (.t 39) (.t 43)),m_ 45 2,o_ 46 (.call (.f 100) [.t 38,.t 44,.t 45]),o_ 47 (.not (.t 46))]) (.cond (.t 47) (.seq (.reg [o_ 6 (.mv (.k (.bool false)))]) (.ret)) (.skip)))) (.reg [m_ 32 7,o_ 33 (.bin .add (.t 32) (.k (.int .i64 1))),m_ 7 33]))
def c106:SCode:=
 .seq (.reg [o_ 3 (.box 63 (.t 0)),o_ 6 (.mv (.k (.bool false)))]) (.seq (.seq (.reg [o_ 8 (.fad 63 0 0 (.t 3)),o_ 9 (.ld1 3 (.t 8))]) (.block 0 (.seq (.reg [o_ 11 (.bin .eql (.t 9) (.k (.int .i64 1))),m_ 10 11]) (.cond (.t 10) (.seq (.reg [o_ 12 (.fad 63 1 1 (.t 3)),o_ 13 (.ld1 3 (.t 12)),m_ 14 1,o_ 15 (.bin .lss (.t 13) (.t 14)),m_ 6 15]) (.ret)) (.seq (.reg [o_ 17 (.bin .eql (.t 9) (.k (.int .i64 2))),m_ 16 17]) (.cond (.t 16) (.seq (.reg [o_ 18 (.fad 63 1 1 (.t 3)),o_ 19 (.ld1 3 (.t 18)),o_ 20 (.bin .leq (.t 19) (.k (.int .i64 6))),m_ 6 20]) (.ret)) (.seq (.reg [o_ 22 (.bin .eql (.t 9) (.k (.int .i64 3))),m_ 21 22]) (.cond (.t 21) (.seq (.reg [o_ 23 (.fad 63 1 1 (.t 3)),o_ 24 (.ld1 3 (.t 23)),m_ 25 2,o_ 26 (.bin .lss (.t 24) (.t 25)),m_ 6 26]) (.ret)) (.skip))))))))) (.seq (.seq (.reg [o_ 7 (.mv (.k (.int .i64 0)))]) (.block 1 (.loop c106b0))) (.seq (.reg
 [o_ 6 (.mv (.k (.bool true)))]) (.ret))))
def r106:List RR:=[.t 6]
theorem ok106:okFn Go.Proofs.Tryz.prog 100 48 c106 r106 3=true:=by kernel_rfl
def c110b0:SCode:=
 .seq (.seq (.reg [m_ 7 5,m_ 8 0,o_ 9 (.len 24 (.t 8)),o_ 10 (.bin .lss (.t 7) (.t 9)),m_ 11 10,pm_ 12 11 0,pm_ 13 11 5,p_ 14 11 (.iad 3 1 (.t 12) (.t 13)),p_ 15 11 (.ld1 3 (.t 14)),pm_ 16 11 1,p_ 17 11 (.bin .lss (.t 15) (.t 16)),o_ 18 (.pick (.t 11) (.t 17) (.k (.bool false)))]) (.cond (.t 18) (.skip) (.exit 0))) (.block 1 (.reg [m_ 19 5,o_ 20 (.bin .add (.t 19) (.k (.int .i64 1))),m_ 5 20]))
def c110:SCode:=
 .seq (.reg [o_ 4 (.mv (.nil 1 8))]) (.seq (.reg [o_ 5 (.mv (.k (.int .i64 0)))]) (.seq (.block 0 (.loop c110b0)) (.seq (.seq (.reg [m_ 21 5,m_ 22 0,o_ 23 (.len 24 (.t 22)),o_ 24 (.bin .lss (.t 21) (.t 23)),m_ 25 24,pm_ 26 25 0,pm_ 27 25 5,p_ 28 25 (.iad 3 1 (.t 26) (.t 27)),p_ 29 25 (.ld1 3 (.t 28)),pm_ 30 25 1,p_ 31 25 (.bin .eql (.t 29) (.t 30)),o_ 32 (.pick (.t 25) (.t 31) (.k (.bool false)))]) (.cond (.t 32) (.seq (.reg [m_ 33 0,m_ 4 33]) (.ret)) (.skip))) (.seq (.reg [o_ 6 (.mv (.nil 1 8))]) (.seq (.reg [m_ 34 6,m_ 35 0,m_ 36 5,o_ 37 (.slc 3 1 8 (.t 35) none (some (.t 36)) none),o_ 38 (.app 3 1 8 (.t 34) (.t 37)),m_ 39 1,o_ 40 (.lit 3 1 8 [.t 39]),o_ 41 (.app 3 1 8 (.t 38) (.t 40)),m_ 6 41]) (.seq (.reg [m_ 42 6,m_ 43 0,m_ 44 5,o_ 45 (.slc 3 1 8 (.t 43) (some (.t 44)) none none),o_ 46 (.app 3 1 8 (.t 42) (.t 45)),m_ 4 46]) (.ret)))))))
def r110:List RR:=[.t 4]
theorem ok110:okFn Go.Proofs.Tryz.prog 51 47 c110 r110 2=true:=by kernel_rfl
end Go.Abs

namespace Go.Abs
open Go.Proofs
def cutI (l:List Int) (n:Int):Nat:=(l.takeWhile fun m=>decide (m < n)).length
def joinI (l:List Int) (n:Int):List Int:=if l[cutI l n]? = some n then l else l.take (cutI l n) ++ [n] ++ l.drop (cutI l n)
theorem cut_le (l:List Int) (n:Int):cutI l n ≤ l.length:=by
 simp only [cutI]
 exact (List.takeWhile_sublist _).length_le
theorem cut_lt {l:List Int} {n:Int}:∀ {i:Nat},i < cutI l n → ∃ m,l[i]? = some m ∧ m < n:=by
 induction l with
 | nil=>intro i h;simp [cutI] at h
 | cons a l ih=>
  intro i h
  by_cases ha:a < n
  ·have:cutI (a :: l) n=cutI l n + 1:=by simp [cutI,List.takeWhile_cons,ha]
   cases i with
   | zero=>exact ⟨a,rfl,ha⟩
   | succ i=>exact ih (by omega)
  ·have:cutI (a :: l) n=0:=by simp [cutI,List.takeWhile_cons,ha]
   omega
theorem cut_ge {l:List Int} {n m:Int} (h:l[cutI l n]? = some m):¬ m < n:=by
 induction l with
 | nil=>simp at h
 | cons a l ih=>
  by_cases ha:a < n
  ·have:cutI (a :: l) n=cutI l n + 1:=by simp [cutI,List.takeWhile_cons,ha]
   rw [this] at h
   exact ih (by simpa using h)
  ·have:cutI (a :: l) n=0:=by simp [cutI,List.takeWhile_cons,ha]
   rw [this] at h
   simp at h;subst h;exact ha
theorem fn110 (l:List Int) (n:Int) (hl:l.length ≤ 1000000000):Fn Tryz.prog 51 [is l,ib n] (is (joinI l n)):=by
 refine fn_of (base:=110000) ok110 rfl fun σ h0 hr=>?_
 have s0:=h0 0
 have s1:=h0 1
 rw [slots0] at s0
 rw [slots1] at s1
 simp only [is,ib] at s0 s1
 clear h0 hr
 unfold c110
 simp [-W_block]
 have hcl:=cut_le l n
 refine W_cut (fun σ=>σ.sl 0=is l ∧ σ.sl 1=ib n ∧ σ.sl 5=ib (cutI l n)) ?_ fun σ' hA=>?_
 ·simp
  refine W_loop (fun m σ=>∃ i:Nat,i + m=cutI l n ∧ σ.sl 0=is l ∧ σ.sl 1=ib n ∧ σ.sl 5=ib i) (cutI l n) ?_ ?_
  ·exact ⟨0,by simp [s0,s1,is,ib]⟩
  ·rintro m σ ⟨i,hm,q0,q1,q5⟩
   unfold c110b0
   simp only [is,ib] at q0 q1 q5
   by_cases hi:i < cutI l n
   ·obtain ⟨x,hx,hxn⟩:=cut_lt hi
    obtain ⟨hi2,hx'⟩:=getE hx
    have w1:=wrap_succ (i:=i) (by omega)
    have hlt:(i:Int) < (l.length:Int):=by omega
    simp [q0,q1,q5,hi2,hx',hxn]
    refine ⟨m - 1,by omega,i + 1,by omega,?_⟩
    simp [q0,q1,w1,is,ib]
   ·have hie:cutI l n=i:=by omega
    by_cases hi2:i < l.length
    ·obtain ⟨x,hx⟩:=at_of hi2
     have hge:=cut_ge (by rw [hie];exact hx)
     obtain ⟨_,hx'⟩:=getE hx
     simp [q0,q1,q5,hi2,hx',hge,is,ib,hie]
    ·simp [q0,q1,q5,hi2,is,ib,hie]
 ·obtain ⟨q0,q1,q5⟩:=hA
  simp only [is,ib] at q0 q1 q5
  have hroom:(l.length + 1) * 8 ≤ room:=by simp only [room];omega
  by_cases hi:cutI l n < l.length
  ·obtain ⟨x,hx⟩:=at_of hi
   obtain ⟨_,hx'⟩:=getE hx
   by_cases hxn:x=n
   ·subst hxn
    have hj:joinI l x=l:=by simp [joinI,hx]
    simp [q0,q1,q5,hi,hx',r110,is,hj]
   ·have hj:joinI l n=l.take (cutI l n) ++ [n] ++ l.drop (cutI l n):=by simp [joinI,hx,hxn]
    have hm:min (cutI l n) l.length=cutI l n:=by omega
    simp [q0,q1,q5,hi,hx',hxn,room,r110,is,hj,hm]
    refine ⟨⟨by omega,hcl⟩,by omega,by omega,⟨by omega,hcl⟩,by omega,?_⟩
    rw [List.take_of_length_le (by simp)]
  ·have hle:l.length ≤ cutI l n:=by omega
   have hj:joinI l n=l ++ [n]:=by
    have h1:l[cutI l n]? = none:=List.getElem?_eq_none hle
    simp [joinI,h1,List.take_of_length_le hle,List.drop_eq_nil_of_le hle]
   have hce:cutI l n=l.length:=by omega
   simp [q0,q1,q5,hce,room,r110,is,hj]
   refine ⟨by omega,by omega,by omega,by omega,?_⟩
   rw [List.take_of_length_le (by simp)]
theorem countL_app6 (ts us:List T):T.countL (ts ++ us)=T.countL ts + T.countL us:=by
 induction ts with
 | nil=>simp [T.countL]
 | cons t ts ih=>simp only [List.cons_append,T.countL,ih];omega
theorem countL_take6 (ts:List T) (i:Nat):T.countL (ts.take i) ≤ T.countL ts:=by
 have h:=countL_app6 (ts.take i) (ts.drop i)
 rw [List.take_append_drop] at h
 omega
mutual
def T.rcons:T → List Int
 | .mk k n ts=>T.rconsL ts (if k=3 then joinI [] n else [])
def T.rconsL:List T → List Int → List Int
 | [],out=>out
 | t :: ts,out=>T.rconsL ts ((T.rcons t).foldl joinI out)
end
theorem join_len (l:List Int) (n:Int):(joinI l n).length ≤ l.length + 1:=by
 have:=cut_le l n
 simp only [joinI];split <;> simp <;> omega
theorem fold_len:∀ (ms out:List Int),(ms.foldl joinI out).length ≤ out.length + ms.length
 | [],out=>by simp
 | m :: ms,out=>by
  have h1:=fold_len ms (joinI out m)
  have h2:=join_len out m
  simp only [List.foldl_cons,List.length_cons];omega
theorem rcons_len (t:T):t.rcons.length ≤ t.count:=by
 induction t using T.ind with
 | h k n ts ih=>
 have key:∀ (ts:List T) (out:List Int),(∀ t,t ∈ ts → t.rcons.length ≤ t.count) → (T.rconsL ts out).length ≤ out.length + T.countL ts:=by
  intro ts
  induction ts with
  | nil=>intro out _;simp [T.rconsL,T.countL]
  | cons t ts ih2=>
   intro out h
   have h1:=ih2 (t.rcons.foldl joinI out) fun u hu=>h u (by simp [hu])
   have h2:=fold_len t.rcons out
   have h3:=h t (by simp)
   simp only [T.rconsL,T.countL];omega
 have h1:=key ts (if k=3 then joinI [] n else []) ih
 have h2:(if k=3 then joinI [] n else []).length ≤ 1:=by
  split
  ·exact join_len [] n
  ·simp
 simp only [T.rcons,T.count];omega
def isC (l:List Int):AV → Prop:=fun x=>x=is l ∨ x=.c (.cap 1 8 (l.map fun n=>[.v (.int .i64 n)]))
theorem fn61 (t:T):t.count ≤ 1048576 → Fn Tryz.prog 50 [tm t] (is t.rcons):=by
 induction t using T.ind with
 | h k n ts ih=>
 intro hc
 simp only [T.count] at hc
 refine fn_of (base:=61000) ok61 rfl fun σ h0 hr=>?_
 have s0:=h0 0
 rw [slots0] at s0
 have hlen:=real_kids (hr (tm (.mk k n ts)) (by simp))
 rw [kids_mk] at hlen
 simp only [tm,cells_mk] at s0
 clear h0 hr
 have loop:∀ (out0:List Int) (σ:St),out0.length ≤ 1 → isC out0 (σ.sl 3) → σ.sl 1=.c (.ref 61001 (σ.tg 61001) 0) → σ.ob 61001=some (.box 63 (T.mk k n ts).cells) → σ.sl 4=ib 0 →
   T.rconsL ts out0=(T.mk k n ts).rcons → W Tryz.prog 61000 (.loop c61b1) σ (onBlock 0 (seqC Tryz.prog 61000 (.seq (.reg
   [⟨some 39,none,.mv (.t 3)⟩,
    ⟨some 2,none,.mv (.t 39)⟩])
 (.ret)) (onEnd [] r61 (is (T.mk k n ts).rcons) []))):=by
  intro out0 σ hol q3 q1 qo q4 hres
  simp only [cells_mk] at qo
  refine W_loop (fun m σ=>∃ (i:Nat) (out:List Int),i + m=ts.length ∧ T.rconsL (ts.drop i) out=T.rconsL ts out0 ∧ out.length ≤ out0.length + T.countL (ts.take i) ∧ isC out (σ.sl 3) ∧ σ.sl 1=.c (.ref 61001 (σ.tg 61001) 0) ∧ σ.ob 61001=some (.box 63 (T.mk k n ts).cells) ∧ σ.sl 4=ib i) ts.length ?_ ?_
  ·exact ⟨0,out0,by simp [q3,q1,qo,q4,cells_mk]⟩
  ·clear q3 q1 qo q4
   rintro m σ ⟨i,out,hm,hp,ho,q3,q1,qo,q4⟩
   unfold c61b1
   simp only [cells_mk,ib] at qo q4
   by_cases hi:i < ts.length
   ·obtain ⟨t,ht⟩:=at_of hi
    obtain ⟨_,ht'⟩:=getE ht
    have w1:=wrap_succ (i:=i) (by omega)
    rw [drop_at ht,T.rconsL] at hp
    have hmem:=List.mem_of_getElem? ht
    have hcm:=count_mem hmem
    have hrl:=rcons_len t
    have htk:T.countL (ts.take (i + 1))=T.countL (ts.take i) + t.count:=by
     rw [List.take_add_one,ht]
     simp [countL_app6,T.countL]
    have htl:T.countL (ts.take (i + 1)) ≤ T.countL ts:=countL_take6 ts (i + 1)
    simp [q1,qo,q4,hi,ht']
    refine ECall.fn (ih t hmem (by omega)) (by simp [tm]) (by simp) (by simp [is]) fun _=>?_
    simp [is,-W_block]
    refine W_cut (fun σ=>isC (t.rcons.foldl joinI out) (σ.sl 3) ∧ σ.sl 1=.c (.ref 61001 (σ.tg 61001) 0) ∧ σ.ob 61001=some (.box 63 (T.mk k n ts).cells) ∧ σ.sl 4=ib i) ?_ fun σ' hA=>?_
    ·simp
     refine W_loop (fun m σ=>∃ (j:Nat) (o2:List Int),j + m=t.rcons.length ∧ (t.rcons.drop j).foldl joinI o2=t.rcons.foldl joinI out ∧ o2.length ≤ out.length + j ∧ isC o2 (σ.sl 3) ∧ σ.sl 5=is t.rcons ∧ σ.sl 6=ib j ∧ σ.sl 1=.c (.ref 61001 (σ.tg 61001) 0) ∧ σ.ob 61001=some (.box 63 (T.mk k n ts).cells) ∧ σ.sl 4=ib i) t.rcons.length ?_ ?_
     ·exact ⟨0,out,by simp [q3,q1,qo,q4,cells_mk,is,ib]⟩
     ·clear q3 q1 qo q4
      rintro m σ ⟨j,o2,hm,hp,ho2,q3,q5,q6,q1,qo,q4⟩
      unfold c61b0
      simp only [is,ib] at q5 q6
      by_cases hj:j < t.rcons.length
      ·obtain ⟨x,hx⟩:=at_of hj
       obtain ⟨_,hx'⟩:=getE hx
       have w2:=wrap_succ (i:=j) (by omega)
       rw [drop_at hx,List.foldl_cons] at hp
       have hjl:=join_len o2 x
       rcases q3 with q3 | q3
       all_goals
        try simp only [is] at q3
        simp [q3,q5,q6,hj,hx']
        refine ECall.fn (fn110 o2 x (by omega)) (by simp [is,ib]) (by simp) (by simp [is]) fun _=>?_
        simp [is,q6]
        refine ⟨m - 1,by omega,j + 1,by omega,_,hp,by omega,?_⟩
        simp [q5,q1,qo,q4,w2,is,ib,isC]
      ·rw [List.drop_eq_nil_of_le (by omega),List.foldl_nil] at hp
       simp [q5,q6,hj,q3,q1,qo,q4,← hp]
    ·obtain ⟨q3,q1,qo,q4⟩:=hA
     simp only [ib] at q4
     simp [q4]
     have hfl:=fold_len t.rcons out
     refine ⟨m - 1,by omega,i + 1,by omega,_,hp,by omega,?_⟩
     simp [q3,q1,qo,w1,ib]
   ·rw [List.drop_eq_nil_of_le (by omega),T.rconsL] at hp
    have hoo:out=(T.mk k n ts).rcons:=hp.trans hres
    rcases q3 with q3 | q3
    all_goals
     try simp only [is] at q3
     simp [q3,q1,qo,q4,hi,r61,is,← hoo]
 unfold c61
 by_cases h3:k=3
 ·subst h3
  simp [s0]
  refine ECall.fn (fn110 [] n (by simp)) (by simp [is,ib]) (by simp) (by simp [is]) fun _=>?_
  simp [is]
  exact loop (joinI [] n) _ (join_len [] n) (.inl (by simp [is])) (by simp) (by simp [cells_mk]) (by simp [ib]) (by simp [T.rcons])
 ·simp [s0,h3]
  exact loop [] _ (by simp) (.inr (by simp)) (by simp) (by simp [cells_mk]) (by simp [ib]) (by simp [T.rcons,h3])
end Go.Abs

namespace Go.Abs
open Go.Proofs
theorem fn51 (k i:Int):Fn Tryz.prog 140 [ib k,ib i] (ib (bindsOf k i)):=by
 refine fn_of (base:=51000) ok51 rfl fun σ h0 hr=>?_
 have s0:=h0 0
 have s1:=h0 1
 rw [slots0] at s0
 rw [slots1] at s1
 simp only [ib] at s0 s1
 clear h0 hr
 unfold c51
 simp [s0,s1,r51,ib]
 refine ⟨fun h1 h2=>?_,fun h=>?_⟩
 ·simp only [bindsOf];rw [if_pos (by omega)]
 ·simp only [bindsOf];rw [if_neg (by omega)]
end Go.Abs

namespace Go.Abs
open Go.Proofs
theorem fn59 (l r:List Int):Fn Tryz.prog 15 [is l,is r] (bb (decide (l=r))):=by
 refine fn_of (base:=59000) ok59 rfl fun σ h0 hr=>?_
 have s0:=h0 0
 have s1:=h0 1
 rw [slots0] at s0
 rw [slots1] at s1
 have hlen:=real_is (hr (is l) (by simp))
 simp only [is] at s0 s1
 clear h0 hr
 unfold c59
 by_cases hl:l.length=r.length
 case neg=>
  have hl':¬ ((l.length:Int)=(r.length:Int)):=by omega
  have hne:¬ l=r:=fun h=>hl (by rw [h])
  simp [s0,s1,hl',r59,bb,hne]
 case pos=>
  simp [s0,s1,hl]
  refine W_loop (fun m σ=>∃ i:Nat,i + m=l.length ∧ (l.drop i=r.drop i ↔ l=r) ∧ σ.sl 0=is l ∧ σ.sl 1=is r ∧ σ.sl 5=ib i) l.length ?_ ?_
  ·exact ⟨0,by simp [s0,s1,is,ib]⟩
  ·rintro m σ ⟨i,hm,hp,q0,q1,q5⟩
   unfold c59b0
   simp only [is,ib] at q0 q1 q5
   by_cases hi:i < l.length
   ·obtain ⟨x,hx⟩:=at_of hi
    obtain ⟨y,hy⟩:=at_of (show i < r.length by omega)
    obtain ⟨_,hx'⟩:=getE hx
    obtain ⟨hi2,hy'⟩:=getE hy
    have w1:=wrap_succ (i:=i) (by omega)
    rw [drop_at hx,drop_at hy,List.cons.injEq] at hp
    simp [q0,q1,q5,hi,hi2,hx',hy']
    refine W_dregA ?_
    simp [q0,q1,q5,hi,hi2,hx',hy']
    refine realC_n ?_
    simp
    constructor
    ·intro hne
     have:¬ l=r:=fun h=>hne (hp.2 h).1
     simp [r59,bb,this]
    ·intro he
     simp [q5]
     refine ⟨m - 1,by omega,i + 1,by omega,?_,?_⟩
     ·rw [← hp];simp [he]
     ·simp [q0,q1,w1,is,ib]
   ·have h1:l=r:=by
     rw [← hp,List.drop_eq_nil_of_le (by omega),List.drop_eq_nil_of_le (by omega)]
    have hi':¬ i < r.length:=by omega
    simp [q0,q1,q5,hi,hi',r59,bb,h1]
theorem fn106 (t:T):∀ a b:Int,Fn Tryz.prog 100 [tm t,ib a,ib b] (bb (t.within a b)):=by
 induction t using T.ind with
 | h k n ts ih=>
 intro a b
 refine fn_of (base:=106000) ok106 rfl fun σ h0 hr=>?_
 have s0:=h0 0
 have s1:=h0 1
 have s2:=h0 2
 rw [slots0] at s0
 rw [slots1] at s1
 rw [slots2] at s2
 have hlen:=real_kids (hr (tm (.mk k n ts)) (by simp))
 rw [kids_mk] at hlen
 simp only [tm,cells_mk,ib] at s0 s1 s2
 clear h0 hr
 unfold c106
 by_cases h1:k=1
 ·subst h1;simp [s0,s1,s2,r106,bb,T.within]
 by_cases h2:k=2
 ·subst h2;simp [s0,s1,s2,r106,bb,T.within]
 by_cases h3:k=3
 ·subst h3;simp [s0,s1,s2,r106,bb,T.within]
 simp [s0,s1,s2,h1,h2,h3]
 refine W_loop (fun m σ=>∃ (i:Nat),i + m=ts.length ∧ T.withinL k a b i (ts.drop i)=T.withinL k a b 0 ts ∧ σ.sl 1=ib a ∧ σ.sl 2=ib b ∧ σ.sl 3=.c (.ref 106003 (σ.tg 106003) 0) ∧ σ.ob 106003=some (.box 63 (T.mk k n ts).cells) ∧ σ.sl 7=ib i) ts.length ?_ ?_
 ·exact ⟨0,by simp [ib,cells_mk,s1,s2]⟩
 ·rintro m σ ⟨i,hm,hp,q1,q2,q3,qo,q7⟩
  unfold c106b0
  simp only [ib,cells_mk] at q1 q2 q3 qo q7
  by_cases hi:i < ts.length
  ·obtain ⟨t,ht⟩:=at_of hi
   obtain ⟨_,ht'⟩:=getE ht
   have w1:=wrap_succ (i:=i) (by omega)
   rw [drop_at ht,T.withinL] at hp
   simp [q1,q2,q3,qo,q7,hi,ht']
   refine W_dregA ?_
   simp [q1,q2,q3,qo,q7,hi,ht']
   refine CallA.fn (fn51 k i) (by simp [ib]) (by simp) rfl ?_
   simp [ib,q1,q2]
   refine CallA.fn (ih t (List.mem_of_getElem? ht) (IntKind.wrap .i64 (a + bindsOf k i)) b) (by simp [ib,tm]) (by simp) rfl ?_
   simp [bb]
   refine realC_n ?_
   simp
   constructor
   ·intro hd
    simp [r106,← hp,hd,T.within,h1,h2,h3]
   ·intro hd
    rw [hd,Bool.true_and] at hp
    simp [q7]
    refine ⟨m - 1,by omega,i + 1,by omega,by simpa using hp,?_⟩
    simp [q1,q2,q3,qo,ib,w1,cells_mk]
  ·simp [q1,q2,q3,qo,q7,hi,r106,bb,T.within,h1,h2,h3]
   rw [← hp,List.drop_eq_nil_of_le (by omega),T.withinL]
def T.rscope (t:T) (a b:Int):Bool:=decide (0 ≤ a) && decide (0 ≤ b) && decide (t.check=0) && T.within t (best2 false a 1048576) b
theorem fn58 (t:T) (a b:Int):Fn Tryz.prog 69 [tm t,ib a,ib b] (bb (t.rscope a b)):=by
 refine fn_of (base:=58000) ok58 rfl fun σ h0 hr=>?_
 have s0:=h0 0
 have s1:=h0 1
 have s2:=h0 2
 rw [slots0] at s0
 rw [slots1] at s1
 rw [slots2] at s2
 simp only [tm,ib] at s0 s1 s2
 clear h0 hr
 unfold c58
 simp [s0,s1,s2]
 refine GCall.fn (fun _=>fn27 t) (by simp [tm]) (by simp) rfl fun _=>?_
 simp [ib,s1,s2]
 refine GCall.fn (fun _=>fn106 t (best2 false a 1048576) b) (by simp [tm,ib]) (by simp) rfl fun _=>?_
 simp [bb,r58,T.rscope]
end Go.Abs

namespace Go.Abs
open Go.Proofs
theorem fn60 (t:T) (hc:t.count ≤ 1048576) (hw:t.wf=true):Fn Tryz.prog 61 [tm t] (is t.consts):=by
 refine fn_of (base:=60000) ok60 rfl fun σ h0 hr=>?_
 have s0:=h0 0
 rw [slots0] at s0
 simp only [tm] at s0
 clear h0 hr
 obtain ⟨f1,f2,f3⟩:=cons_facts t []
 unfold c60
 simp [s0]
 refine ECall.obj (rs:=[]) (args:=[tm t,.c (.mp 60004 (σ.tg 60004 + 1))]) (by simpa [refs] using sp107 t 60004 (σ.tg 60004 + 1) [] (by omega)) (by simp [tm]) (by simp) (by simp [AV.keys2]) ?_ (mpO_kin _ _ _ _) fun _=>?_
 ·intro k' t' q h
  obtain ⟨rfl,rfl,rfl⟩:=mpO_get h
  simp [encK]
 ·simp
  refine ECall.keys (k:=60004) (one:=true) (es:=encK (t.cons [])) (by simp [puts_some (mpO_self 60004 (σ.tg 60004 + 1) (t.cons []))]) (by simp) ?_
  simp
  refine ECall.sorted 60010 (k:=60004) (one:=true) (es:=encK (t.cons [])) (by simp [puts_some (mpO_self 60004 (σ.tg 60004 + 1) (t.cons []))]) (by simp) (by omega) ?_ ?_ ?_
  ·intro p hp
   obtain ⟨n,hn,rfl⟩:=List.mem_map.1 hp
   exact f3 hw (by simp) n hn
  ·simp [encK]
   simp at f1
   omega
  ·simp [r60,is,isL,encK_keys,T.consts]
abbrev Srt (l:List Int):Prop:=l.Pairwise (· < ·)
theorem srt_ext:∀ {l r:List Int},Srt l → Srt r → (∀ n,n ∈ l ↔ n ∈ r) → l=r
 | [],[],_,_,_=>rfl
 | [],b :: r,_,_,h=>by have:=(h b).2 (by simp);simp at this
 | a :: l,[],_,_,h=>by have:=(h a).1 (by simp);simp at this
 | a :: l,b :: r,hl,hr,h=>by
  have hl':=List.pairwise_cons.1 hl
  have hr':=List.pairwise_cons.1 hr
  have hab:a=b:=by
   rcases List.mem_cons.1 ((h a).1 (by simp)) with h1 | h1
   ·exact h1
   ·rcases List.mem_cons.1 ((h b).2 (by simp)) with h2 | h2
    ·exact h2.symm
    ·have:=hr'.1 a h1
     have:=hl'.1 b h2
     omega
  subst hab
  congr 1
  refine srt_ext hl'.2 hr'.2 fun n=>⟨fun hn=>?_,fun hn=>?_⟩
  ·have h1:=hl'.1 n hn
   rcases List.mem_cons.1 ((h n).1 (by simp [hn])) with h2 | h2
   ·omega
   ·exact h2
  ·have h1:=hr'.1 n hn
   rcases List.mem_cons.1 ((h n).2 (by simp [hn])) with h2 | h2
   ·omega
   ·exact h2
theorem sortI_srt {l:List Int} (h:l.Nodup):Srt (sortI l):=by
 have h1:(sortI l).Pairwise fun a b=>decide (a ≤ b)=true:=List.pairwise_mergeSort (fun a b c h1 h2=>by simp at *;omega) (fun a b=>by simp;omega) l
 have h2:(sortI l).Nodup:=(List.mergeSort_perm l _).nodup_iff.2 h
 refine (h1.and h2).imp ?_
 intro a b ⟨h1,h2⟩
 simp at h1
 omega
theorem sortI_mem {l:List Int} {n:Int}:n ∈ sortI l ↔ n ∈ l:=(List.mergeSort_perm l _).mem_iff
theorem join_cons (a:Int) (l:List Int) (n:Int):joinI (a :: l) n=if a < n then a :: joinI l n else if a=n then a :: l else n :: a :: l:=by
 by_cases h:a < n
 ·have hc:cutI (a :: l) n=cutI l n + 1:=by simp [cutI,List.takeWhile_cons,h]
  simp only [joinI,hc,h,if_true,List.getElem?_cons_succ,List.take_succ_cons,List.drop_succ_cons]
  split <;> simp
 ·have hc:cutI (a :: l) n=0:=by simp [cutI,List.takeWhile_cons,h]
  simp only [joinI,hc,h,if_false]
  by_cases h2:a=n <;> simp [h2]
theorem join_srt:∀ {l:List Int} (n:Int),Srt l → Srt (joinI l n) ∧ ∀ m,m ∈ joinI l n ↔ m ∈ l ∨ m=n
 | [],n,_=>by simp [joinI,cutI]
 | a :: l,n,h=>by
  have h':=List.pairwise_cons.1 h
  obtain ⟨i1,i2⟩:=join_srt n h'.2
  rw [join_cons]
  by_cases h1:a < n
  ·rw [if_pos h1]
   refine ⟨List.pairwise_cons.2 ⟨fun m hm=>?_,i1⟩,fun m=>?_⟩
   ·rcases (i2 m).1 hm with h2 | h2
    ·exact h'.1 m h2
    ·omega
   ·simp only [List.mem_cons,i2,or_assoc]
  ·by_cases h2:a=n
   ·rw [if_neg h1,if_pos h2]
    refine ⟨h,fun m=>⟨.inl,?_⟩⟩
    rintro (h3 | rfl)
    ·exact h3
    ·simp [h2]
   ·rw [if_neg h1,if_neg h2]
    refine ⟨List.pairwise_cons.2 ⟨fun m hm=>?_,h⟩,fun m=>?_⟩
    ·rcases List.mem_cons.1 hm with rfl | hm
     ·omega
     ·have:=h'.1 m hm;omega
    ·simp only [List.mem_cons];constructor
     ·rintro (h | h)
      ·exact .inr h
      ·exact .inl h
     ·rintro (h | h)
      ·exact .inr h
      ·exact .inl h
theorem fold_srt:∀ (ms:List Int) {out:List Int},Srt out → Srt (ms.foldl joinI out) ∧ ∀ m,m ∈ ms.foldl joinI out ↔ m ∈ out ∨ m ∈ ms
 | [],out,h=>⟨h,by simp⟩
 | a :: ms,out,h=>by
  obtain ⟨h1,h2⟩:=join_srt a h
  obtain ⟨h3,h4⟩:=fold_srt ms h1
  refine ⟨h3,fun m=>?_⟩
  rw [List.foldl_cons,h4,h2]
  simp only [List.mem_cons,or_assoc]
mutual
def T.hasC:T → Int → Bool
 | .mk k m ts,n=>(decide (k=3) && decide (m=n)) || T.hasCL ts n
def T.hasCL:List T → Int → Bool
 | [],_=>false
 | t :: ts,n=>T.hasC t n || T.hasCL ts n
end
theorem hasCL_any (ts:List T) (n:Int):T.hasCL ts n=ts.any fun t=>t.hasC n:=by
 induction ts with
 | nil=>simp [T.hasCL]
 | cons t ts ih=>simp [T.hasCL,ih]
theorem cons_mem (t:T):∀ (ks:List Int) (m:Int),m ∈ t.cons ks ↔ m ∈ ks ∨ t.hasC m=true:=by
 induction t using T.ind with
 | h k n ts ih=>
 intro ks m
 have key:∀ (ts:List T) (ks:List Int),(∀ t,t ∈ ts → ∀ (ks:List Int) (m:Int),m ∈ t.cons ks ↔ m ∈ ks ∨ t.hasC m=true) → (m ∈ T.consL ts ks ↔ m ∈ ks ∨ T.hasCL ts m=true):=by
  intro ts
  induction ts with
  | nil=>intro ks _;simp [T.consL,T.hasCL]
  | cons t ts ih2=>
   intro ks h
   simp only [T.consL,T.hasCL,Bool.or_eq_true]
   rw [ih2 _ fun u hu=>h u (by simp [hu]),h t (by simp),or_assoc]
 simp only [T.cons,T.hasC,Bool.or_eq_true,Bool.and_eq_true,decide_eq_true_eq]
 rw [key ts _ ih]
 by_cases h3:k=3
 ·simp only [h3,if_true,addK_mem,true_and]
  rw [or_assoc,eq_comm (a:=n)]
 ·simp [h3]
theorem rcons_facts (t:T):Srt t.rcons ∧ ∀ m,m ∈ t.rcons ↔ t.hasC m=true:=by
 induction t using T.ind with
 | h k n ts ih=>
 have key:∀ (ts:List T) (out:List Int),(∀ t,t ∈ ts → Srt t.rcons ∧ ∀ m,m ∈ t.rcons ↔ t.hasC m=true) → Srt out → Srt (T.rconsL ts out) ∧ ∀ m,m ∈ T.rconsL ts out ↔ m ∈ out ∨ T.hasCL ts m=true:=by
  intro ts
  induction ts with
  | nil=>intro out _ h;exact ⟨h,by simp [T.rconsL,T.hasCL]⟩
  | cons t ts ih2=>
   intro out h ho
   obtain ⟨h1,h2⟩:=fold_srt t.rcons ho
   obtain ⟨h3,h4⟩:=ih2 (t.rcons.foldl joinI out) (fun u hu=>h u (by simp [hu])) h1
   refine ⟨h3,fun m=>?_⟩
   simp only [T.rconsL,T.hasCL,Bool.or_eq_true]
   rw [h4,h2,(h t (by simp)).2,or_assoc]
 have hs:Srt (if k=3 then joinI [] n else []) ∧ ∀ m,m ∈ (if k=3 then joinI [] n else []) ↔ (k=3 ∧ n=m):=by
  by_cases h3:k=3
  ·simp only [h3,if_true,true_and]
   have:=join_srt (l:=[]) n List.Pairwise.nil
   exact ⟨this.1,fun m=>by rw [this.2];simp [eq_comm]⟩
  ·simp [h3]
 obtain ⟨h1,h2⟩:=key ts _ ih hs.1
 refine ⟨h1,fun m=>?_⟩
 simp only [T.rcons,T.hasC,Bool.or_eq_true,Bool.and_eq_true,decide_eq_true_eq]
 rw [h2,hs.2]
theorem consts_facts (t:T):Srt t.consts ∧ ∀ m,m ∈ t.consts ↔ t.hasC m=true:=
 ⟨sortI_srt ((cons_facts t []).2.1 List.nodup_nil),fun m=>by rw [T.consts,sortI_mem,cons_mem];simp⟩
theorem consts_rcons (t:T):t.consts=t.rcons:=srt_ext (consts_facts t).1 (rcons_facts t).1 fun n=>by rw [(consts_facts t).2,(rcons_facts t).2]
theorem inS_big (t:T):t.formed=true → ∀ a a' b:Int,65536 ≤ a → 65536 ≤ a' → t.inS a b=t.inS a' b:=by
 induction t using T.ind with
 | h k n ts ih=>
 intro hf a a' b ha ha'
 rw [T.formed,Bool.and_eq_true,formedL_all,List.all_eq_true] at hf
 by_cases hl:k=1 ∨ k=2 ∨ k=3
 ·have:=head_leaf hf.1 hl
  subst this
  simp only [T.inS]
  rcases hl with rfl | rfl | rfl
  ·have hh:=hf.1
   simp [badHead,kidsOf] at hh
   have e1:n < a:=by omega
   have e2:n < a':=by omega
   simp [e1,e2]
  ·simp
  ·simp
 ·have h1:k ≠ 1:=fun h=>hl (.inl h)
  have h2:k ≠ 2:=fun h=>hl (.inr (.inl h))
  have h3:k ≠ 3:=fun h=>hl (.inr (.inr h))
  have key:∀ (ts:List T) (i:Int),(∀ t,t ∈ ts → ∀ a a' b:Int,65536 ≤ a → 65536 ≤ a' → t.inS a b=t.inS a' b) → T.inSL k a b i ts=T.inSL k a' b i ts:=by
   intro ts
   induction ts with
   | nil=>intro i _;simp [T.inSL]
   | cons t ts ih2=>
    intro i h
    have hbd:=binds01 k i
    simp only [T.inSL]
    rw [h t (by simp) (a + bindsOf k i) (a' + bindsOf k i) b (by omega) (by omega),ih2 (i + 1) fun u hu=>h u (by simp [hu])]
  simp only [T.inS,h1,h2,h3,if_false]
  exact key ts 0 fun t ht=>ih t ht (hf.2 t ht)
theorem scope_rscope {t:T} (hc:t.count ≤ 1048576) (a b:Int):t.scope a b=t.rscope a b:=by
 by_cases h0:0 ≤ a
 ·by_cases h1:t.check=0
  ·have hf:=((check_iff t).1 h1).2.2
   simp only [T.scope,T.rscope,best2]
   simp only [Bool.false_eq_true,if_false]
   by_cases h2:a ≤ 65536
   ·have e1:(if 65536 < a then 65536 else a)=a:=by split <;> omega
    have e2:(if 1048576 < a then 1048576 else a)=a:=by split <;> omega
    rw [e1,e2]
   ·have e1:(if 65536 < a then 65536 else a)=65536:=by split <;> omega
    rw [e1,within_inS t _ b (by omega) (by omega),within_inS t _ b (by split <;> omega) (by split <;> omega),inS_big t hf 65536 (if 1048576 < a then 1048576 else a) b (by omega) (by split <;> omega)]
  ·simp [T.scope,T.rscope,h1]
 ·simp [T.scope,T.rscope,h0]
end Go.Abs

namespace Go.Abs
open Go.Proofs
def axc (t:T):List Cell:=[.v (.int .i64 1),.v (.int .i64 t.kind),.v (.int .i64 t.val),.sl 3 40 (t.kids.map T.cells),.v (.int .i64 0),.v (.int .i64 0),.sl 3 40 [],.v (.int .i64 0),.v (.int .i64 0),.sl 6 80 [],.sl 6 96 [],.v (.int .i64 0)]
def axs (l:List T):AV:=.c (.sl 12 160 (l.map axc))
def tz:T:=.mk 0 0 []
theorem fn1034 (n:Int):Fn Tryz.prog 34 [ib n] (tm (.mk 3 n [])):=by
 refine fn_of (base:=1034000) ok1034 rfl fun σ h0 hr=>?_
 have s0:σ.sl 0=.c (.v (.int .i64 n)):=h0 0
 clear h0 hr
 unfold c1034
 simp [s0,r1034,tm,cells_mk]
theorem fn1082:Fn Tryz.prog 82 [.agg [.sl 6 80 [],.sl 6 96 [],.v (.int .i64 0)]] (bb true):=by
 refine fn_of (base:=1082000) ok1082 rfl fun σ h0 hr=>?_
 have s0:σ.sl 0=.agg [.sl 6 80 [],.sl 6 96 [],.v (.int .i64 0)]:=h0 0
 clear h0 hr
 unfold c1082
 have w0:IntKind.wrap .i64 (0:Int)=0:=by decide
 simp [s0,r1082,bb,w0]
theorem fn1083:Fn Tryz.prog 83 [tm tz] (bb true):=by
 refine fn_of (base:=1083000) ok1083 rfl fun σ h0 hr=>?_
 have s0:σ.sl 0=.agg [.v (.int .i64 0),.v (.int .i64 0),.sl 3 40 []]:=h0 0
 clear h0 hr
 unfold c1083
 simp [s0,r1083,bb]
theorem fn1052 (t:T) (i:Int):Fn Tryz.prog 52 [.agg (axc t),ib i] (bb (t.scope 0 i)):=by
 refine fn_of (base:=1052000) ok1052 rfl fun σ h0 hr=>?_
 have s0:σ.sl 0=.agg (axc t):=h0 0
 have s1:σ.sl 1=.c (.v (.int .i64 i)):=h0 1
 clear h0 hr
 simp only [axc] at s0
 unfold c1052
 simp [s0,s1]
 refine ECall.fn (fn30 t 0 i) (by simp [tm,ib,cells_eq t,toD2,toD1,toD]) (by simp) rfl fun _=>?_
 cases hs:t.scope 0 i with
 | false=>simp [bb,r1052]
 | true=>
  simp [bb]
  refine GCall.fn (fun _=>fn1082) (by simp [toD2,toD1,toD]) (by simp) rfl fun _=>?_
  simp [bb]
  refine GCall.fn (fun _=>fn1083) (by simp [toD2,toD1,toD,tm,tz,cells_mk]) (by simp) rfl fun _=>?_
  simp [bb,r1052]
def chk:List T → Nat → Int
 | [],_=>0
 | t :: l,i=>if t.scope 0 i then chk l (i + 1) else 12
@[simp] theorem axc_len (t:T):(axc t).length=12:=rfl
@[simp] theorem axc_take (t:T):(axc t).take 12=axc t:=rfl
@[simp] theorem axc_toD (σ:St) (t:T):(axc t).map (toD σ)=axc t:=rfl
@[simp] theorem axc_keys (t:T):keysCs (axc t)=[]:=rfl
@[simp] theorem axc_put (t:T) (a b c d e f g h i j k l:Cell):putC [a,b,c,d,e,f,g,h,i,j,k,l] 0 (axc t)=axc t:=rfl
theorem fn1027 (l:List T) (hl:l.length ≤ 200):Fn Tryz.prog 27 [axs l] (ib (chk l 0)):=by
 refine fn_of (base:=1027000) ok1027 rfl fun σ h0 hr=>?_
 have s0:σ.sl 0=.c (.sl 12 160 (l.map axc)):=h0 0
 clear h0 hr
 unfold c1027
 have hl':¬ (200:Int) < l.length:=by omega
 simp [s0,hl',-W_block]
 rw [W_block]
 refine W_loop (fun m σ=>∃ i:Nat,i + m=l.length ∧ chk (l.drop i) i=chk l 0 ∧ σ.sl 12=.c (.sl 12 160 (l.map axc)) ∧ σ.sl 13=.c (.v (.int .i64 l.length)) ∧ σ.sl 14=.c (.v (.int .i64 i))) l.length ⟨0,by simp [s0]⟩ ?_
 clear s0 σ
 rintro m σ ⟨i,hm,hp,s12,s13,s14⟩
 unfold c1027b0
 by_cases hi:i < l.length
 ·have w1:=wrap_succ (i:=i) (by omega)
  obtain ⟨t,ht1⟩:=at_of hi
  obtain ⟨_,ht2⟩:=getE ht1
  rw [drop_at ht1,chk] at hp
  simp [s12,s13,s14,hi,ht2]
  refine ECall.fn (fn1052 t i) (by simp [toD2,toD1,ib,toD]) (by simp) rfl fun _=>?_
  cases hs:t.scope 0 (i:Int) with
  | false=>
   rw [hs] at hp
   simp at hp
   simp [bb,r1027,ib,← hp]
  | true=>
   rw [hs] at hp
   simp at hp
   simp [bb,axc,s12,s13,s14,w1]
   exact ⟨m - 1,by omega,i + 1,by omega,hp,rfl⟩
 ·have:i=l.length:=by omega
  subst this
  simp [chk] at hp
  simp [s12,s13,s14,r1027,ib,← hp]
def addAll (cs ks:List Int):List Int:=cs.foldl addK ks
def KP (σ σ':St):Prop:=∀ s,s=5 ∨ s=22 ∨ s=23 ∨ s=24 ∨ s=0 ∨ s=1 → σ'.sl s=σ.sl s
theorem loop1041 {σ:St} {Q:SEx → St → Prop} (cs ks:List Int) (hc:cs.length < 1000000) (s29:σ.sl 29=is cs) (s30:σ.sl 30=ib cs.length) (s31:σ.sl 31=ib (0:Nat)) (s5:σ.sl 5=.c (.mp 1041011 (σ.tg 1041011))) (o5:σ.ob 1041011=some (.mob true (encK ks)))
  (hQ:∀ σ',KP σ σ' → σ'.ob 1041011=some (.mob true (encK (addAll cs ks))) → σ'.tg 1041011=σ.tg 1041011 → Q .normal σ') :
  W Tryz.prog 1041000 (.loop c1041b0) σ (onBlock 2 Q):=by
 refine W_loop (fun m σ'=>∃ (i:Nat) (ks':List Int),i + m=cs.length ∧ addAll (cs.drop i) ks'=addAll cs ks ∧ KP σ σ' ∧ σ'.sl 29=is cs ∧ σ'.sl 30=ib cs.length ∧ σ'.sl 31=ib i ∧ σ'.ob 1041011=some (.mob true (encK ks')) ∧ σ'.tg 1041011=σ.tg 1041011) cs.length ⟨0,ks,by simp [s29,s30,s31,o5];exact fun _ _=>rfl⟩ ?_
 rintro m σ' ⟨i,ks',hm,hp,hs,q29,q30,q31,qo,qt⟩
 have q5:σ'.sl 5=.c (.mp 1041011 (σ'.tg 1041011)):=by rw [hs 5 (by simp),s5,qt]
 simp only [is,ib] at q29 q30 q31
 unfold c1041b0
 by_cases hi:i < cs.length
 ·have w1:=wrap_succ (i:=i) (by omega)
  obtain ⟨c,hc1⟩:=at_of hi
  obtain ⟨_,hc2⟩:=getE hc1
  rw [drop_at hc1] at hp
  simp [q29,q30,q31,q5,qo,hi,hc2,mset_encK,w1]
  refine ⟨m - 1,by omega,i + 1,by omega,addK ks' c,hp,fun s h=>?_,by simp [is],by simp [ib],by simp [ib],rfl,qt⟩
  rcases h with rfl | rfl | rfl | rfl | rfl | rfl <;> (simp;exact hs _ (by simp))
 ·have:i=cs.length:=by omega
  subst this
  simp [addAll] at hp
  simp [q29,q30,q31]
  refine hQ _ (fun s h=>?_) (by simp [qo,addAll,hp]) (by simp [qt])
  rcases h with rfl | rfl | rfl | rfl | rfl | rfl <;> (simp;exact hs _ (by simp))
def usesA (t:T):List Int:=sortI (addAll tz.consts (addAll t.consts []))
theorem addAll_mem {cs ks:List Int} {n:Int}:n ∈ addAll cs ks ↔ n ∈ cs ∨ n ∈ ks:=by
 induction cs generalizing ks with
 | nil=>simp [addAll]
 | cons c cs ih=>
  show n ∈ addAll cs (addK ks c) ↔ _
  rw [ih,addK_mem]
  simp only [List.mem_cons]
  constructor
  ·rintro (h | h | h) <;> simp [h]
  ·rintro ((h | h) | h) <;> simp [h]
theorem fn1041 (l:List T) (n:Nat) (t:T) (ht:l[n]? = some t) (hc:t.count ≤ 1048576) (hw:t.wf=true) (hcl:t.consts.length < 1000000) (hlen:(addAll tz.consts (addAll t.consts [])).length ≤ 1000000000) (hok:∀ x,x ∈ addAll tz.consts (addAll t.consts []) → okI x) :
  Fn Tryz.prog 41 [axs l,ib n] (is (usesA t)):=by
 refine fn_of (base:=1041000) ok1041 rfl fun σ h0 hr=>?_
 have s0:σ.sl 0=.c (.sl 12 160 (l.map axc)):=h0 0
 have s1:σ.sl 1=.c (.v (.int .i64 n)):=h0 1
 obtain ⟨hn,ht'⟩:=getE ht
 clear h0 hr
 unfold c1041
 simp [s0,s1]
 refine W_dregA ?_
 simp [s0,s1,hn,ht',axc]
 refine ⟨by simp [room],realC_n ?_⟩
 simp [-W_block]
 rw [W_block]
 have c1:tz.consts=[]:=by simp [T.consts,tz,T.cons,T.consL,sortI]
 refine W_loop (fun m σ=>∃ (i:Nat) (ks:List Int),i + m=2 ∧ ks=(if i=0 then [] else if i=1 then addAll t.consts [] else addAll tz.consts (addAll t.consts [])) ∧ σ.sl 0=.c (.sl 12 160 (l.map axc)) ∧ σ.sl 1=.c (.v (.int .i64 n)) ∧ σ.sl 5=.c (.mp 1041011 (σ.tg 1041011)) ∧
   σ.ob 1041011=some (.mob true (encK ks)) ∧ σ.sl 22=.c (.cap 3 40 [t.cells,tz.cells]) ∧ σ.sl 23=.c (.v (.int .i64 2)) ∧ σ.sl 24=.c (.v (.int .i64 i))) 2 ⟨0,[],by simp [s0,s1,encK,cells_eq t,tz,cells_mk]⟩ ?_
 clear s0 s1 σ
 rintro m σ ⟨i,ks,hm,hk,s0,s1,s5,o5,s22,s23,s24⟩
 unfold c1041b1
 match i,hm with
 | 0,hm=>
  simp at hk
  subst hk
  simp [s22,s23,s24]
  refine ECall.fn (fn60 t hc hw) (by simp [tm,cells_eq t,toD2,toD1,toD]) (by simp) rfl fun _=>?_
  simp [is]
  refine loop1041 t.consts [] hcl (by simp [is]) (by simp [ib]) (by simp [ib]) (by simp [s5]) (by simp [o5]) fun σ' hs ho ht2=>?_
  have q0:σ'.sl 0=.c (.sl 12 160 (l.map axc)):=by rw [hs 0 (by simp)];simp [s0]
  have q1:σ'.sl 1=.c (.v (.int .i64 n)):=by rw [hs 1 (by simp)];simp [s1]
  have q5:σ'.sl 5=.c (.mp 1041011 (σ'.tg 1041011)):=by rw [hs 5 (by simp),ht2];simp [s5]
  have q22:σ'.sl 22=.c (.cap 3 40 [t.cells,tz.cells]):=by rw [hs 22 (by simp)];simp [s22]
  have q23:σ'.sl 23=.c (.v (.int .i64 2)):=by rw [hs 23 (by simp)];simp [s23]
  have q24:σ'.sl 24=.c (.v (.int .i64 (0:Nat))):=by rw [hs 24 (by simp)];simp [s24]
  have w1:IntKind.wrap .i64 (1:Int)=1:=by decide
  simp [q24,w1]
  exact ⟨1,by omega,1,by omega,by simp [q0,q1,q5,ho,q22,q23]⟩
 | 1,hm=>
  simp at hk
  subst hk
  simp [s22,s23,s24]
  refine ECall.fn (fn60 tz (by decide) (by decide)) (by simp [tm,cells_eq tz,toD2,toD1,toD]) (by simp) rfl fun _=>?_
  simp [is]
  refine loop1041 tz.consts (addAll t.consts []) (by rw [c1];decide) (by simp [is]) (by simp [ib]) (by simp [ib]) (by simp [s5]) (by simp [o5]) fun σ' hs ho ht2=>?_
  have q0:σ'.sl 0=.c (.sl 12 160 (l.map axc)):=by rw [hs 0 (by simp)];simp [s0]
  have q1:σ'.sl 1=.c (.v (.int .i64 n)):=by rw [hs 1 (by simp)];simp [s1]
  have q5:σ'.sl 5=.c (.mp 1041011 (σ'.tg 1041011)):=by rw [hs 5 (by simp),ht2];simp [s5]
  have q22:σ'.sl 22=.c (.cap 3 40 [t.cells,tz.cells]):=by rw [hs 22 (by simp)];simp [s22]
  have q23:σ'.sl 23=.c (.v (.int .i64 2)):=by rw [hs 23 (by simp)];simp [s23]
  have q24:σ'.sl 24=.c (.v (.int .i64 (1:Nat))):=by rw [hs 24 (by simp)];simp [s24]
  have w1:IntKind.wrap .i64 (2:Int)=2:=by decide
  simp [q24,w1]
  exact ⟨0,by omega,2,by omega,by simp [q0,q1,q5,ho,q22,q23]⟩
 | 2,hm=>
  simp at hk
  subst hk
  simp [s0,s1,s22,s23,s24,hn,ht',axc,s5]
  refine ECall.keys (k:=1041011) (one:=true) (es:=encK (addAll tz.consts (addAll t.consts []))) (by simp [o5]) (by simp) ?_
  simp
  refine ECall.sorted 1041010 (k:=1041011) (one:=true) (es:=encK (addAll tz.consts (addAll t.consts []))) (by simp [o5]) (by simp) (by omega) ?_ ?_ ?_
  ·intro p hp
   obtain ⟨x,hx,rfl⟩:=List.mem_map.1 hp
   exact hok x hx
  ·simpa [encK] using hlen
  ·simp [r1041,is,isL,encK_keys,usesA]
 | i + 3,hm=>omega
end Go.Abs

namespace Go.Abs
open Go.Proofs
def T.none (t:T):Bool:=decide (t.kind=0) && decide (t.val=0) && t.kids.isEmpty
theorem fn1083g (t:T):Fn Tryz.prog 83 [tm t] (bb t.none):=by
 refine fn_of (base:=1083000) ok1083 rfl fun σ h0 hr=>?_
 have s0:σ.sl 0=tm t:=h0 0
 obtain ⟨k,n,ts⟩:=t
 simp only [tm,cells_mk] at s0
 clear h0 hr
 unfold c1083
 by_cases c1:k=0
 ·by_cases c2:n=0
  ·cases ts <;> simp [s0,c1,c2,r1083,bb,T.none,T.kind,T.val,T.kids]
   omega
  ·simp [s0,c1,c2,r1083,bb,T.none,T.kind,T.val,T.kids]
 ·simp [s0,c1,r1083,bb,T.none,T.kind,T.val,T.kids]
def T.inn (t:T) (v:Int):Bool:=t.scope v 65536
theorem fn1191 (t:T) (v:Int):Fn Tryz.prog 191 [tm t,ib v] (bb (t.inn v)):=by
 refine fn_of (base:=1191000) ok1191 rfl fun σ h0 hr=>?_
 have s0:σ.sl 0=tm t:=h0 0
 have s1:σ.sl 1=.c (.v (.int .i64 v)):=h0 1
 simp only [tm] at s0
 clear h0 hr
 unfold c1191
 simp [s0,s1]
 refine ECall.fn (fn30 t v 65536) (by simp [tm,ib]) (by simp) rfl fun _=>?_
 simp [r1191,bb,T.inn]
def vbox (v:Int):Obj:=.box 3 [.v (.int .i64 v)]
theorem sp1193 (tn:Nat) (v:Int) (t:T):Spec Tryz.prog 193 [tm t,.c (.ref 1183003 tn 0)] [(1183003,tn,vbox v)] (bb (!t.inn v)) [(1183003,tn,vbox v)]:=by
 refine spec_one (base:=1193000) ok1193 rfl fun σ h0 oK gK hr=>?_
 have s0:σ.sl 0=tm t:=h0 0
 have s1:σ.sl 1=.c (.ref 1183003 tn 0):=h0 1
 simp only [tm] at s0
 clear h0 hr
 unfold c1193
 simp [s0,s1,oK,gK,vbox]
 refine ECall.fn (fn1191 t v) (by simp [tm,ib]) (by simp) rfl fun hx=>?_
 simp [bb]
 refine EndU_one ?_ ?_ ?_ ?_ <;> simp [r1193,bb,oK,gK,vbox]
def allIn (l:List T) (v:Int):Bool:=l.all fun t=>t.inn v
theorem fn1183 (l:List T) (v:Int):Fn Tryz.prog 183 [tms l,ib v] (bb (allIn l v)):=by
 refine fn_of (base:=1183000) ok1183 rfl fun σ h0 hr=>?_
 have s0:σ.sl 0=tms l:=h0 0
 have s1:σ.sl 1=.c (.v (.int .i64 v)):=h0 1
 simp only [tms] at s0
 clear h0 hr
 unfold c1183
 simp [s0,s1]
 have hs:=spc112 (f:=193) (rs:=[(1183003,σ.tg 1183003 + 1)]) (l:=[(1183003,σ.tg 1183003 + 1,vbox v)]) (NoKeys.one rfl) (p:=fun t=>!t.inn v) (ts:=l) fun t _=>by simpa [refs] using sp1193 (σ.tg 1183003 + 1) v t
 refine ECall.ro (rs:=[]) (args:=[tms l,.c (.clo 193 [] [(1183003,σ.tg 1183003 + 1)])]) [(1183003,σ.tg 1183003 + 1,vbox v)] (by simpa [refs] using hs) (by simp [tms,toD2,toD1,toD]) (by simp) rfl (Ro.one (by simp [vbox]) (by simp) rfl) fun _=>?_
 have e:allIn l v=!(l.any fun t=>!t.inn v):=by
  rw [allIn,List.all_eq_not_any_not]
 rw [e]
 generalize (l.any fun t=>!t.inn v)=r
 simp [r1183,bb]
def maybeIn (is:Bool) (t:T) (v:Int):Bool:=if is then t.inn v else t.none
theorem fn1179 (is:Bool) (t:T) (v:Int):Fn Tryz.prog 179 [bb is,tm t,ib v] (bb (maybeIn is t v)):=by
 refine fn_of (base:=1179000) ok1179 rfl fun σ h0 hr=>?_
 have s0:σ.sl 0=.c (.v (.bool is)):=h0 0
 have s1:σ.sl 1=tm t:=h0 1
 have s2:σ.sl 2=.c (.v (.int .i64 v)):=h0 2
 simp only [tm] at s1
 clear h0 hr
 unfold c1179
 cases is with
 | false=>
  simp [s0,s1,s2]
  refine ECall.fn (fn1083g t) (by simp [tm]) (by simp) rfl fun _=>?_
  simp [r1179,bb,maybeIn]
 | true=>
  simp [s0,s1,s2]
  refine ECall.fn (fn1191 t v) (by simp [tm,ib]) (by simp) rfl fun _=>?_
  simp [r1179,bb,maybeIn]
def sIdx (b:B) (k:Int):List A:=match b.sorts[k.toNat]? with | some s=>s.idx | none=>[]
def domIn:List T → Nat → Bool
 | [],_=>true
 | d :: r,i=>d.inn i && domIn r (i + 1)
def badRec (b:B) (a:A):Bool:=!a.typ.none || decide (12 < a.dom.length) || decide (a.sort < 0) || decide ((b.sorts.length:Int) ≤ a.sort) || decide (a.idx.length ≠ (sIdx b a.sort).length)
def A.right (b:B) (a:A) (i:Nat):Bool:=
 if a.rc then !badRec b a && domIn a.dom i && allIn a.idx ((i + a.dom.length:Nat):Int)
 else a.typ.inn i && decide (a.dom.length + a.idx.length=0) && decide (a.sort=0)
theorem real_am {a:A} (h:Real (am a)):a.dom.length * 40 ≤ 140737488355328 ∧ a.idx.length * 40 ≤ 140737488355328:=by
 have h1:=real_cell h (show .sl 3 40 (a.dom.map T.cells) ∈ a.cells by simp [A.cells])
 have h2:=real_cell h (show .sl 3 40 (a.idx.map T.cells) ∈ a.cells by simp [A.cells])
 exact ⟨by simpa [room] using h1,by simpa [room] using h2⟩
structure FA (b:B) (a:A) (i:Nat) (σ:St):Prop where
 s3:σ.sl 3=.c (.ref 1190003 (σ.tg 1190003) 0)
 o3:σ.ob 1190003=some (.box 68 b.cells)
 s4:σ.sl 4=.c (.ref 1190004 (σ.tg 1190004) 0)
 o4:σ.ob 1190004=some (.box 126 a.cells)
 s2:σ.sl 2=.c (.v (.int .i64 i))
theorem loop1190 {σ:St} {Q:SEx → St → Prop} (b:B) (a:A) (i:Nat) (hi:i ≤ 1000) (hd:a.dom.length ≤ 12) (H:FA b a i σ) (s69:σ.sl 69=.c (.sl 3 40 (a.dom.map T.cells))) (s70:σ.sl 70=.c (.v (.int .i64 a.dom.length))) (s71:σ.sl 71=.c (.v (.int .i64 (0:Nat))))
  (hR:∀ σ',domIn a.dom i=false → σ'.sl 6=bb false → Q .ret σ') (hQ:∀ σ',domIn a.dom i=true → FA b a i σ' → Q .normal σ'):W Tryz.prog 1190000 (.loop c1190b0) σ (onBlock 0 Q):=by
 refine W_loop (fun m σ=>∃ j:Nat,j + m=a.dom.length ∧ domIn (a.dom.drop j) (i + j)=domIn a.dom i ∧ FA b a i σ ∧ σ.sl 69=.c (.sl 3 40 (a.dom.map T.cells)) ∧ σ.sl 70=.c (.v (.int .i64 a.dom.length)) ∧ σ.sl 71=.c (.v (.int .i64 j))) a.dom.length ⟨0,by simp,by simp,H,s69,s70,s71⟩ ?_
 clear H s69 s70 s71 σ
 rintro m σ ⟨j,hm,hp,⟨s3,o3,s4,o4,s2⟩,s69,s70,s71⟩
 unfold c1190b0
 by_cases hj:j < a.dom.length
 ·have w1:=wrap_succ (i:=j) (by omega)
  have w2:IntKind.wrap .i64 ((i:Int) + j)=((i + j:Nat):Int):=by rw [wrap_id (by omega) (by omega)];omega
  obtain ⟨d,hd1⟩:=at_of hj
  obtain ⟨_,hd2⟩:=getE hd1
  rw [drop_at hd1,domIn] at hp
  simp [s2,s69,s70,s71,hj,hd2,w2,-Int.natCast_add]
  refine ECall.fn (fn1191 d ((i + j:Nat):Int)) (by simp [tm,ib]) (by simp) rfl fun _=>?_
  cases hin:d.inn ((i + j:Nat):Int) with
  | false=>
   rw [hin] at hp
   simp [bb]
   exact hR _ (by simpa using hp.symm) (by simp [bb])
  | true=>
   rw [hin] at hp
   simp [bb,s71,w1]
   exact ⟨m - 1,by omega,j + 1,by omega,by rw [← Nat.add_assoc];simpa using hp,⟨by simp [s3],by simp [o3],by simp [s4],by simp [o4],by simp [s2]⟩,by simp [s69],by simp [s70],by simp⟩
 ·have:j=a.dom.length:=by omega
  subst this
  simp [domIn] at hp
  simp [s69,s70,s71]
  exact hQ _ hp ⟨by simp [s3],by simp [o3],by simp [s4],by simp [o4],by simp [s2]⟩
theorem fn1190 (b:B) (a:A) (i:Nat) (hi:i ≤ 1000):Fn Tryz.prog 190 [bm b,am a,ib i] (bb (a.right b i)):=by
 refine fn_of (base:=1190000) ok1190 rfl fun σ h0 hr=>?_
 have s0:σ.sl 0=bm b:=h0 0
 have s1:σ.sl 1=am a:=h0 1
 have s2:σ.sl 2=.c (.v (.int .i64 i)):=h0 2
 have hl1:=real_b1 (hr (bm b) (by simp))
 obtain ⟨ha1,ha2⟩:=real_am (hr (am a) (by simp))
 simp only [bm,B.cells] at s0
 simp only [am,A.cells] at s1
 clear h0 hr
 have w0:IntKind.wrap .i64 ((a.dom.length:Int) + a.idx.length)=(a.dom.length:Int) + a.idx.length:=wrap_id (by omega) (by omega)
 unfold c1190
 cases hrc:a.rc with
 | false=>
  simp [s0,s1,s2,hrc]
  refine ECall.fn (fn1191 a.typ i) (by simp [tm,ib,cells_eq]) (by simp) rfl fun _=>?_
  cases hin:a.typ.inn i with
  | false=>simp [bb,r1190,A.right,hrc,hin,w0]
  | true=>
   by_cases h1:a.dom.length + a.idx.length=0
   ·have h1':(a.dom.length:Int) + a.idx.length=0:=by omega
    simp [bb,r1190,A.right,hrc,hin,w0,h1,h1',show IntKind.wrap .i64 (0:Int)=0 by decide]
   ·have h1':¬ (a.dom.length:Int) + a.idx.length=0:=by omega
    simp [bb,r1190,A.right,hrc,hin,w0,h1,h1']
    intro e1 e2
    simp [e1,e2] at h1
 | true=>
  have fin:badRec b a=true → A.right b a i=false:=fun h=>by simp [A.right,hrc,h]
  simp [s0,s1,s2,hrc]
  refine W_dregA ?_
  simp [s0,s1,s2,hrc]
  refine CallA.fn (fn1083g a.typ) (by simp [tm,cells_eq]) (by simp) rfl ?_
  have c4i:∀ n:Int,(¬ n < 0) → (n.toNat:Int)=n:=fun n h=>by omega
  cases hx:b.sorts[a.sort.toNat]? with
  | none=>
   cases hN:a.typ.none with
   | false=>
    simp [s0,s1,s2,hrc,bb,hx,hN]
    refine realC_n ?_
    simp [r1190,fin (by simp [badRec,hN]),bb]
   | true=>
    by_cases c2:12 < a.dom.length
    ·have c2':(12:Int) < a.dom.length:=by omega
     simp [s0,s1,s2,hrc,bb,hx,hN,c2,c2']
     refine realC_n ?_
     simp [r1190,fin (by simp [badRec,hN,c2]),bb]
    ·have c2':¬ (12:Int) < a.dom.length:=by omega
     by_cases c3:a.sort < 0
     ·simp [s0,s1,s2,hrc,bb,hx,hN,c2,c2',c3]
      refine realC_n ?_
      simp [r1190,fin (by simp [badRec,hN,c2,c3]),bb]
     ·have c4:(b.sorts.length:Int) ≤ a.sort:=by
       have:=List.getElem?_eq_none_iff.1 hx
       omega
      simp [s0,s1,s2,hrc,bb,hx,hN,c2,c2',c3,c4]
      refine realC_n ?_
      simp [r1190,fin (by simp [badRec,hN,c2,c3,c4]),bb]
  | some s=>
   have hsx:sIdx b a.sort=s.idx:=by simp [sIdx,hx]
   cases hN:a.typ.none with
   | false=>
    simp [s0,s1,s2,hrc,bb,hx,hN,S.cells]
    refine realC_n ?_
    simp [r1190,fin (by simp [badRec,hN]),bb]
   | true=>
    by_cases c2:12 < a.dom.length
    ·have c2':(12:Int) < a.dom.length:=by omega
     simp [s0,s1,s2,hrc,bb,hx,hN,c2,c2',S.cells]
     refine realC_n ?_
     simp [r1190,fin (by simp [badRec,hN,c2]),bb]
    ·have c2':¬ (12:Int) < a.dom.length:=by omega
     by_cases c3:a.sort < 0
     ·simp [s0,s1,s2,hrc,bb,hx,hN,c2,c2',c3,S.cells]
      refine realC_n ?_
      simp [r1190,fin (by simp [badRec,hN,c2,c3]),bb]
     ·by_cases c4:(b.sorts.length:Int) ≤ a.sort
      ·exfalso
       have:=(List.getElem?_eq_some_iff.1 hx).1
       omega
      ·by_cases c5:a.idx.length=s.idx.length
       ·have c5':(a.idx.length:Int)=s.idx.length:=by omega
        have hnb:badRec b a=false:=by simp [badRec,hN,hsx,c5];omega
        have hlt:a.sort.toNat < b.sorts.length:=(List.getElem?_eq_some_iff.1 hx).1
        simp [s0,s1,s2,hrc,bb,hx,hN,c2,c2',c3,c4,c5,c5',S.cells]
        refine ⟨⟨by omega,by omega⟩,realC_n ?_⟩
        simp
        refine loop1190 b a i hi (by omega) ⟨by simp,by simp [B.cells],by simp,by simp [A.cells,hrc],by simp [s2]⟩ (by simp) (by simp) (by simp) (fun σ' e q6=>?_) fun σ' e H=>?_
        ·simp [q6,r1190,bb,A.right,hrc,hnb,e]
        obtain ⟨s3,o3,s4,o4,q2⟩:=H
        have w2:IntKind.wrap .i64 ((i:Int) + a.dom.length)=((i + a.dom.length:Nat):Int):=by rw [wrap_id (by omega) (by omega)];omega
        simp [s3,o3,s4,o4,q2,A.cells,w2,-Int.natCast_add]
        refine ECall.fn (fn1183 a.idx ((i + a.dom.length:Nat):Int)) (by simp [tms,ib]) (by simp) rfl fun _=>?_
        simp [r1190,bb,A.right,hrc,hnb,e]
       ·have c5':¬ (a.idx.length:Int)=s.idx.length:=by omega
        simp [s0,s1,s2,hrc,bb,hx,hN,c2,c2',c3,c4,c5,c5',S.cells]
        refine ⟨⟨by omega,by omega⟩,realC_n ?_⟩
        simp [r1190,fin (by simp [badRec,hN,hsx,c5]),bb]
def rowA (b:B):List A → Nat → Bool
 | [],_=>true
 | a :: l,i=>a.right b i && rowA b l (i + 1)
def rowOk (b:B) (l:List A):Bool:=decide (l.length ≤ 12) && rowA b l 0
theorem fn1178 (b:B) (l:List A):Fn Tryz.prog 178 [bm b,ams l] (bb (rowOk b l)):=by
 refine fn_of (base:=1178000) ok1178 rfl fun σ h0 hr=>?_
 have s0:σ.sl 0=bm b:=h0 0
 have s1:σ.sl 1=ams l:=h0 1
 simp only [bm] at s0
 simp only [ams] at s1
 clear h0 hr
 unfold c1178
 by_cases c1:12 < l.length
 ·have c1':(12:Int) < l.length:=by omega
  simp [s0,s1,c1,c1',r1178,bb,rowOk]
  intro h;omega
 ·have c1':¬ (12:Int) < l.length:=by omega
  have ho:rowOk b l=rowA b l 0:=by simp [rowOk];intro _;omega
  rw [ho]
  simp [s0,s1,c1,c1',-W_block,B.cells]
  rw [W_block]
  refine W_loop (fun m σ=>∃ i:Nat,i + m=l.length ∧ rowA b (l.drop i) i=rowA b l 0 ∧ σ.sl 2=.c (.ref 1178002 (σ.tg 1178002) 0) ∧ σ.ob 1178002=some (.box 68 b.cells) ∧ σ.sl 10=.c (.sl 7 104 (l.map A.cells)) ∧ σ.sl 11=.c (.v (.int .i64 l.length)) ∧ σ.sl 12=.c (.v (.int .i64 i))) l.length ?_ ?_
  ·exact ⟨0,by simp,by simp,by simp,by simp [B.cells],by simp,by simp,by simp⟩
  clear s0 s1 σ
  rintro m σ ⟨i,hm,hp,s2,o2,s10,s11,s12⟩
  unfold c1178b0
  by_cases hi:i < l.length
  ·have w1:=wrap_succ (i:=i) (by omega)
   obtain ⟨a,ha⟩:=at_of hi
   obtain ⟨_,ha2⟩:=getE ha
   rw [drop_at ha,rowA] at hp
   simp [s2,o2,s10,s11,s12,hi,ha2,A.cells,B.cells]
   refine ECall.fn (fn1190 b a i (by omega)) (by simp [bm,am,ib,A.cells,B.cells]) (by simp) rfl fun _=>?_
   cases hin:a.right b i with
   | false=>
    rw [hin] at hp
    simp at hp
    simp [bb,r1178,hp]
   | true=>
    rw [hin] at hp
    simp [bb,s12,w1]
    exact ⟨m - 1,by omega,i + 1,by omega,by simpa using hp,by simp [s2],by simp [o2,B.cells],by simp [s10],by simp [s11],by simp⟩
  ·have:i=l.length:=by omega
   subst this
   simp [rowA] at hp
   simp [s2,o2,s10,s11,s12,r1178,bb,hp]
end Go.Abs

namespace Go.Abs
open Go.Proofs
def badIdx (s:S) (k:Int) (a:A):Bool:=a.rc && ((decide (0 < a.dom.length) || decide (k ≤ a.sort)) || s.dec)
theorem sp1181 (t1 t2:Nat) (k:Int) (s:S) (a:A):Spec Tryz.prog 181 [am a,.c (.ref 1157003 t1 0),.c (.ref 1157005 t2 0)] [(1157003,t1,vbox k),(1157005,t2,.box 104 s.cells)] (bb (badIdx s k a)) [(1157003,t1,vbox k),(1157005,t2,.box 104 s.cells)]:=by
 refine spec_two (base:=1181000) ok1181 rfl (by decide) fun σ h0 oB gB oK gK hr=>?_
 have s0:σ.sl 0=am a:=h0 0
 have s1:σ.sl 1=.c (.ref 1157003 t1 0):=h0 1
 have s2:σ.sl 2=.c (.ref 1157005 t2 0):=h0 2
 simp only [am,A.cells] at s0
 clear h0 hr
 simp only [vbox] at oB
 unfold c1181
 cases hrc:a.rc with
 | false=>
  simp [s0,s1,s2,oB,gB,oK,gK,hrc,S.cells]
  refine EndU_two ?_ ?_ ?_ ?_ ?_ ?_ <;> simp [r1181,bb,badIdx,hrc,oB,gB,oK,gK,vbox,S.cells]
 | true=>
  by_cases c1:0 < a.dom.length
  ·have c1':(0:Int) < a.dom.length:=by omega
   simp [s0,s1,s2,oB,gB,oK,gK,hrc,c1,c1',S.cells]
   refine EndU_two ?_ ?_ ?_ ?_ ?_ ?_ <;> simp [r1181,bb,badIdx,hrc,c1,c1',oB,gB,oK,gK,vbox,S.cells]
  ·have c1':¬ (0:Int) < a.dom.length:=by omega
   by_cases c2:k ≤ a.sort
   ·simp [s0,s1,s2,oB,gB,oK,gK,hrc,c1,c1',c2,S.cells]
    refine EndU_two ?_ ?_ ?_ ?_ ?_ ?_ <;> simp [r1181,bb,badIdx,hrc,c1,c1',c2,oB,gB,oK,gK,vbox,S.cells]
   ·simp [s0,s1,s2,oB,gB,oK,gK,hrc,c1,c1',c2,S.cells]
    refine EndU_two ?_ ?_ ?_ ?_ ?_ ?_ <;> simp [r1181,bb,badIdx,hrc,c1,c1',c2,oB,gB,oK,gK,vbox,S.cells]
def S.right (b:B) (k:Nat) (s:S):Bool:=rowOk b s.idx && lvl s.level && maybeIn s.dec s.decType s.idx.length && !(s.idx.any (badIdx s k))
theorem fn1157 (b:B) (k:Nat) (s:S) (hs:b.sorts[k]? = some s):Fn Tryz.prog 157 [bm b,ib k] (bb (s.right b k)):=by
 refine fn_of (base:=1157000) ok1157 rfl fun σ h0 hr=>?_
 have s0:σ.sl 0=bm b:=h0 0
 have s1:σ.sl 1=.c (.v (.int .i64 k)):=h0 1
 simp only [bm,B.cells] at s0
 clear h0 hr
 obtain ⟨hil,hs2⟩:=getE hs
 unfold c1157
 simp [s0,s1,hil,hs2,S.cells]
 refine ECall.fn (fn1178 b s.idx) (by simp [bm,B.cells,ams]) (by simp) rfl fun _=>?_
 simp [bb]
 refine GCall.fn (fun _=>fn1156 s.level) (by simp [ib]) (by simp) rfl fun _=>?_
 simp [bb]
 refine GCall.fn (fun _=>fn1179 s.dec s.decType s.idx.length) (by simp [ib,bb,tm,cells_eq]) (by simp) rfl fun _=>?_
 have hsp:=fun t1 t2=>spc1180 (f:=181) (rs:=[(1157003,t1),(1157005,t2)]) (l:=[(1157003,t1,vbox k),(1157005,t2,.box 104 s.cells)]) (NoKeys.two rfl rfl) (p:=badIdx s k) (ts:=s.idx) fun a _=>by simpa [refs] using sp1181 t1 t2 k s a
 cases e1:rowOk b s.idx with
 | false=>simp [r1157,bb,S.right,e1]
 | true=>
  cases e2:lvl s.level with
  | false=>simp [r1157,bb,S.right,e1,e2]
  | true=>
   cases e3:maybeIn s.dec s.decType s.idx.length with
   | false=>simp [r1157,bb,S.right,e1,e2,e3]
   | true=>
    simp [bb]
    refine ECall.ro (rs:=[]) (args:=[ams s.idx,.c (.clo 181 [] [(1157003,σ.tg 1157003 + 1),(1157005,σ.tg 1157005 + 1)])]) [(1157003,σ.tg 1157003 + 1,vbox k),(1157005,σ.tg 1157005 + 1,.box 104 s.cells)] (by simpa [refs] using hsp (σ.tg 1157003 + 1) (σ.tg 1157005 + 1)) (by simp [ams,toD2,toD1,toD]) (by simp) rfl
     (Ro.two (by decide) (by simp [vbox]) (by simp) (by simp [S.cells]) (by simp) rfl rfl) fun _=>?_
    have e:s.right b k=!(s.idx.any (badIdx s k)):=by simp only [S.right,e1,e2,e3,Bool.true_and]
    rw [e]
    generalize s.idx.any (badIdx s k)=r
    simp [r1157,bb]
def sAt (b:B) (k:Int):S:=match b.sorts[k.toNat]? with | some s=>s | none=>⟨[],0,false,.mk 0 0 []⟩
def K.right (b:B) (c:K):Bool:=
 !(decide (c.sort < 0) || decide ((b.sorts.length:Int) ≤ c.sort)) && rowOk b c.args && decide (c.idx.length=(sAt b c.sort).idx.length) && allIn c.idx c.args.length && maybeIn (sAt b c.sort).dec c.dec c.args.length
theorem fn1160 (b:B) (c:K):Fn Tryz.prog 160 [bm b,km c] (bb (c.right b)):=by
 refine fn_of (base:=1160000) ok1160 rfl fun σ h0 hr=>?_
 have s0:σ.sl 0=bm b:=h0 0
 have s1:σ.sl 1=km c:=h0 1
 simp only [bm,B.cells] at s0
 simp only [km,K.cells] at s1
 clear h0 hr
 unfold c1160
 by_cases c1:c.sort < 0
 ·simp [s0,s1,c1]
  refine GCall.fn (fun _=>fn1178 b c.args) (by simp [bm,B.cells,ams]) (by simp) rfl fun _=>?_
  simp [r1160,bb,K.right,c1]
 ·by_cases c2:(b.sorts.length:Int) ≤ c.sort
  ·simp [s0,s1,c1,c2]
   refine GCall.fn (fun _=>fn1178 b c.args) (by simp [bm,B.cells,ams]) (by simp) rfl fun _=>?_
   simp [r1160,bb,K.right,c1,c2]
  ·obtain ⟨s,hs⟩:=at_of (ts:=b.sorts) (i:=c.sort.toNat) (by omega)
   obtain ⟨hil,hs2⟩:=getE hs
   have hsa:sAt b c.sort=s:=by simp [sAt,hs]
   simp [s0,s1,c1,c2]
   refine GCall.fn (fun _=>fn1178 b c.args) (by simp [bm,B.cells,ams]) (by simp) rfl fun _=>?_
   cases e1:rowOk b c.args with
   | false=>simp [r1160,bb,K.right,e1]
   | true=>
    simp [bb,hs,S.cells]
    refine ⟨⟨by omega,by omega⟩,?_⟩
    by_cases e2:c.idx.length=s.idx.length
    ·have e2':(c.idx.length:Int)=s.idx.length:=by omega
     simp [e2,e2']
     refine GCall.fn (fun _=>fn1183 c.idx c.args.length) (by simp [tms,ib]) (by simp) rfl fun _=>?_
     simp [bb]
     refine GCall.fn (fun _=>fn1179 s.dec c.dec c.args.length) (by simp [ib,bb,tm,cells_eq]) (by simp) rfl fun _=>?_
     simp [r1160,bb,K.right,e1,hsa,e2,c1,c2]
    ·have e2':¬ (c.idx.length:Int)=s.idx.length:=by omega
     simp [e2,e2']
     refine GCall.fn (fun _=>fn1183 c.idx c.args.length) (by simp [tms,ib]) (by simp) rfl fun _=>?_
     simp [bb]
     refine GCall.fn (fun _=>fn1179 s.dec c.dec c.args.length) (by simp [ib,bb,tm,cells_eq]) (by simp) rfl fun _=>?_
     simp [r1160,bb,K.right,e1,hsa,e2,c1,c2]
theorem sp1159 (tn:Nat) (b:B) (c:K):Spec Tryz.prog 159 [km c,.c (.ref 1121001 tn 0)] [(1121001,tn,.box 68 b.cells)] (bb (!c.right b)) [(1121001,tn,.box 68 b.cells)]:=by
 refine spec_one (base:=1159000) ok1159 rfl fun σ h0 oK gK hr=>?_
 have s0:σ.sl 0=km c:=h0 0
 have s1:σ.sl 1=.c (.ref 1121001 tn 0):=h0 1
 simp only [km,K.cells] at s0
 clear h0 hr
 unfold c1159
 simp [s0,s1,oK,gK,B.cells]
 refine ECall.fn (fn1160 b c) (by simp [bm,km,B.cells,K.cells]) (by simp) rfl fun hx=>?_
 simp [bb]
 refine EndU_one ?_ ?_ ?_ ?_ <;> simp [r1159,bb,oK,gK,B.cells]
def sortsOk (b:B):List S → Nat → Bool
 | [],_=>true
 | s :: l,k=>s.right b k && sortsOk b l (k + 1)
def B.shapeB (b:B):Bool:=!(decide (b.sorts.length < 1) || decide (4 < b.sorts.length) || decide (8 < b.cons.length) || !lvl b.elim) && sortsOk b b.sorts 0 && b.cons.all (K.right b)
def B.shape (b:B):Int:=if b.shapeB then 0 else 12
theorem loop1121 {σ:St} {Q:SEx → St → Prop} (b:B) (hl:b.sorts.length ≤ 4) (s1:σ.sl 1=.c (.ref 1121001 (σ.tg 1121001) 0)) (o1:σ.ob 1121001=some (.box 68 b.cells)) (s28:σ.sl 28=.c (.v (.int .i64 b.sorts.length))) (s29:σ.sl 29=.c (.v (.int .i64 (0:Nat))))
  (hR:∀ σ',sortsOk b b.sorts 0=false → σ'.sl 2=ib 12 → Q .ret σ') (hQ:∀ σ',sortsOk b b.sorts 0=true → σ'.sl 1=.c (.ref 1121001 (σ'.tg 1121001) 0) → σ'.ob 1121001=some (.box 68 b.cells) → Q .normal σ'):W Tryz.prog 1121000 (.loop c1121b0) σ (onBlock 0 Q):=by
 refine W_loop (fun m σ=>∃ j:Nat,j + m=b.sorts.length ∧ sortsOk b (b.sorts.drop j) j=sortsOk b b.sorts 0 ∧ σ.sl 1=.c (.ref 1121001 (σ.tg 1121001) 0) ∧ σ.ob 1121001=some (.box 68 b.cells) ∧ σ.sl 28=.c (.v (.int .i64 b.sorts.length)) ∧ σ.sl 29=.c (.v (.int .i64 j))) b.sorts.length ⟨0,by simp,by simp,s1,o1,s28,s29⟩ ?_
 clear s1 o1 s28 s29 σ
 rintro m σ ⟨j,hm,hp,s1,o1,s28,s29⟩
 unfold c1121b0
 by_cases hj:j < b.sorts.length
 ·have w1:=wrap_succ (i:=j) (by omega)
  obtain ⟨s,hs⟩:=at_of hj
  rw [drop_at hs,sortsOk] at hp
  simp [s1,o1,s28,s29,hj,B.cells]
  refine ECall.fn (fn1157 b j s hs) (by simp [bm,ib,B.cells]) (by simp) rfl fun _=>?_
  cases hin:s.right b j with
  | false=>
   rw [hin] at hp
   simp [bb]
   exact hR _ (by simpa using hp.symm) (by simp [ib])
  | true=>
   rw [hin] at hp
   simp [bb,s29,w1]
   exact ⟨m - 1,by omega,j + 1,by omega,by simpa using hp,by simp [s1],by simp [o1,B.cells],by simp [s28],by simp⟩
 ·have:j=b.sorts.length:=by omega
  subst this
  simp [sortsOk] at hp
  simp [s28,s29]
  exact hQ _ hp (by simp [s1]) (by simp [o1])
theorem fn1121 (b:B):Fn Tryz.prog 121 [bm b] (ib b.shape):=by
 refine fn_of (base:=1121000) ok1121 rfl fun σ h0 hr=>?_
 have s0:σ.sl 0=bm b:=h0 0
 simp only [bm] at s0
 clear h0 hr
 unfold c1121
 by_cases c1:b.sorts.length < 1
 ·have c1':(b.sorts.length:Int) < 1:=by omega
  simp [s0,B.cells,c1,c1']
  refine GCall.fn (fun _=>fn1156 b.elim) (by simp [ib]) (by simp) rfl fun _=>?_
  simp [bb,r1121,ib,B.shape,B.shapeB,c1]
 ·have c1':¬ (b.sorts.length:Int) < 1:=by omega
  by_cases c2:4 < b.sorts.length
  ·have c2':(4:Int) < b.sorts.length:=by omega
   simp [s0,B.cells,c1,c1',c2,c2']
   refine GCall.fn (fun _=>fn1156 b.elim) (by simp [ib]) (by simp) rfl fun _=>?_
   simp [bb,r1121,ib,B.shape,B.shapeB,c2]
  ·have c2':¬ (4:Int) < b.sorts.length:=by omega
   by_cases c3:8 < b.cons.length
   ·have c3':(8:Int) < b.cons.length:=by omega
    simp [s0,B.cells,c1,c1',c2,c2',c3,c3']
    refine GCall.fn (fun _=>fn1156 b.elim) (by simp [ib]) (by simp) rfl fun _=>?_
    simp [bb,r1121,ib,B.shape,B.shapeB,c3]
   ·have c3':¬ (8:Int) < b.cons.length:=by omega
    simp [s0,B.cells,c1,c1',c2,c2',c3,c3']
    refine GCall.fn (fun _=>fn1156 b.elim) (by simp [ib]) (by simp) rfl fun _=>?_
    cases c4:lvl b.elim with
    | false=>simp [bb,r1121,ib,B.shape,B.shapeB,c4]
    | true=>
     simp [bb]
     refine loop1121 b (by omega) (by simp) (by simp [B.cells]) (by simp) (by simp) (fun σ' e q2=>?_) fun σ' e q1 o1=>?_
     ·simp [q2,r1121,ib,B.shape,B.shapeB,e]
     simp [q1,o1,B.cells]
     have hsp:=fun tn=>spc1158 (f:=159) (rs:=[(1121001,tn)]) (l:=[(1121001,tn,.box 68 b.cells)]) (NoKeys.one rfl) (p:=fun c=>!c.right b) (ts:=b.cons) fun a _=>by simpa [refs] using sp1159 tn b a
     refine ECall.ro (rs:=[]) (args:=[kms b.cons,.c (.clo 159 [] [(1121001,σ'.tg 1121001)])]) [(1121001,σ'.tg 1121001,.box 68 b.cells)] (by simpa [refs] using hsp (σ'.tg 1121001)) (by simp [kms,toD2,toD1,toD]) (by simp) rfl (Ro.one (by simp [o1,B.cells]) (by simp) rfl) fun _=>?_
     have e2:b.shapeB=!(b.cons.any fun c=>!c.right b):=by
      rw [B.shapeB,e,c4,← List.all_eq_not_any_not]
      simp [c1,c2,c3]
     rw [B.shape,e2]
     generalize (b.cons.any fun c=>!c.right b)=r
     cases r <;> simp [r1121,bb,ib]
end Go.Abs

namespace Go.Abs
def c1184b0:SCode:=
 .seq (.seq (.reg [o_ 5 (.ldn 63 3 (.t 1)),o_ 6 (.call (.f 194) [.t 5,.k (.int .i64 6)])]) (.cond (.t 6) (.skip) (.exit 0))) (.block 1 (.seq (.seq (.reg [m_ 7 4,o_ 8 (.fad 63 2 2 (.t 1)),o_ 9 (.ld1 61 (.t 8)),o_ 10 (.iad 63 3 (.t 9) (.k (.int .i64 1))),o_ 11 (.ldn 63 3 (.t 10)),o_ 12 (.lit 63 3 40 [.t 11]),o_ 13 (.appm 63 3 40 (.t 7) (.t 12)),m_ 4 13]) (.gh)) (.reg [o_ 14 (.fad 63 2 2 (.t 1)),o_ 15 (.ld1 61 (.t 14)),o_ 16 (.iad 63 3 (.t 15) (.k (.int .i64 0))),o_ 17 (.ldn 63 3 (.t 16)),n_ (.stn 63 3 (.t 1) (.t 17))])))
def c1184:SCode:=
 .seq (.reg [o_ 1 (.box 63 (.t 0)),o_ 2 (.alloc 63 [.v (.int .i64 0),.v (.int .i64 0),.cap 3 40 []]),o_ 3 (.mv (.nil 3 40))]) (.seq (.seq (.reg [o_ 4 (.mv (.nil 3 40))]) (.gh)) (.seq (.block 0 (.loop c1184b0)) (.seq (.seq (.reg [m_ 18 4,o_ 19 (.call (.f 195) [.t 18])]) (.gh)) (.seq (.reg [o_ 20 (.ldn 63 3 (.t 1)),m_ 21 4,n_ (.stn 63 3 (.t 2) (.t 20)),m_ 3 21]) (.ret)))))
def r1184:List RR:=[.cn 2 3,.t 3]
theorem ok1184:okFn Go.Proofs.Tryz.prog 184 22 c1184 r1184 1=true:=by kernel_rfl
def c1194:SCode:=
 .seq (.reg [o_ 2 (.box 63 (.t 0)),o_ 4 (.mv (.k (.bool false)))]) (.seq (.reg [o_ 5 (.fad 63 0 0 (.t 2)),o_ 6 (.ld1 3 (.t 5)),m_ 7 1,o_ 8 (.bin .eql (.t 6) (.t 7)),m_ 9 8,p_ 10 9 (.fad 63 2 2 (.t 2)),p_ 11 9 (.ld1 61 (.t 10)),p_ 12 9 (.len 61 (.t 11)),p_ 13 9 (.bin .eql (.t 12) (.k (.int .i64 2))),o_ 14 (.pick (.t 9) (.t 13) (.k (.bool false))),m_ 4 14]) (.ret))
def r1194:List RR:=[.t 4]
theorem ok1194:okFn Go.Proofs.Tryz.prog 194 15 c1194 r1194 2=true:=by kernel_rfl
def c1195b0:SCode:=
 .seq (.seq (.reg [m_ 7 2,m_ 8 3,o_ 9 (.bin .lss (.t 7) (.t 8))]) (.cond (.t 9) (.skip) (.exit 0))) (.seq (.block 1 (.dreg [0,0,0,0,0,0,48,112,0,0,768,1792,4083,8179,16383,32767] [m_ 14 0,m_ 15 2,m_ 16 0,m_ 17 3,m_ 18 0,m_ 19 3,o_ 20 (.iad 63 3 (.t 18) (.t 19)),o_ 21 (.ldn 63 3 (.t 20)),m_ 22 0,m_ 23 2,o_ 24 (.iad 63 3 (.t 22) (.t 23)),o_ 25 (.ldn 63 3 (.t 24)),o_ 26 (.iad 63 3 (.t 14) (.t 15)),n_ (.stn 63 3 (.t 26) (.t 21)),o_ 27 (.iad 63 3 (.t 16) (.t 17)),n_ (.stn 63 3 (.t 27) (.t 25))])) (.reg [m_ 10 2,o_ 11 (.bin .add (.t 10) (.k (.int .i64 1))),m_ 12 3,o_ 13 (.bin .sub (.t 12) (.k (.int .i64 1))),m_ 2 11,m_ 3 13]))
def c1195:SCode:=
 .seq (.reg [m_ 4 0,o_ 5 (.len 61 (.t 4)),o_ 6 (.bin .sub (.t 5) (.k (.int .i64 1))),o_ 2 (.mv (.k (.int .i64 0))),m_ 3 6]) (.block 0 (.loop c1195b0))
def r1195:List RR:=[]
theorem ok1195:okFn Go.Proofs.Tryz.prog 195 28 c1195 r1195 1=true:=by kernel_rfl
def c1161:SCode:=
 .seq (.reg [o_ 2 (.box 145 (.t 0)),o_ 4 (.alloc 145 [.cap 6 80 [],.cap 6 96 [],.v (.int .i64 0),.v (.int .i64 0),.cap 7 104 [],.v (.int .i64 0)])]) (.seq (.reg [o_ 5 (.fad 145 3 5 (.t 2)),o_ 6 (.ld1 3 (.t 5)),m_ 7 1,o_ 8 (.bin .add (.t 6) (.t 7)),o_ 9 (.fad 145 3 5 (.t 2)),n_ (.st1 3 (.t 9) (.t 8))]) (.seq (.reg [o_ 10 (.ldn 145 6 (.t 2)),n_ (.stn 145 6 (.t 4) (.t 10))]) (.ret)))
def r1161:List RR:=[.cn 4 6]
theorem ok1161:okFn Go.Proofs.Tryz.prog 161 11 c1161 r1161 2=true:=by kernel_rfl
def c1162:SCode:=
 .seq (.reg [o_ 2 (.box 145 (.t 0)),o_ 3 (.box 63 (.t 1)),o_ 4 (.mv (.k (.int .i64 0))),o_ 5 (.mv (.k (.bool false)))]) (.seq (.reg [o_ 7 (.fad 145 2 4 (.t 2)),o_ 8 (.ld1 102 (.t 7)),o_ 9 (.len 102 (.t 8)),o_ 10 (.bin .sub (.t 9) (.k (.int .i64 1))),o_ 11 (.fad 63 1 1 (.t 3)),o_ 12 (.ld1 3 (.t 11)),o_ 13 (.fad 145 3 5 (.t 2)),o_ 14 (.ld1 3 (.t 13)),o_ 15 (.bin .sub (.t 12) (.t 14)),o_ 16 (.bin .sub (.t 10) (.t 15)),m_ 6 16]) (.seq (.seq (.reg [o_ 17 (.fad 63 0 0 (.t 3)),o_ 18 (.ld1 3 (.t 17)),o_ 19 (.bin .neq (.t 18) (.k (.int .i64 1))),m_ 20 19,q_ 21 20 (.fad 63 1 1 (.t 3)),q_ 22 20 (.ld1 3 (.t 21)),q_ 23 20 (.fad 145 3 5 (.t 2)),q_ 24 20 (.ld1 3 (.t 23)),q_ 25 20 (.bin .lss (.t 22) (.t 24)),o_ 26 (.pick (.t 20) (.k (.bool true)) (.t 25)),m_ 27 26,qm_ 28 27 6,q_ 29 27 (.bin .lss (.t 28) (.k (.int .i64 0))),o_ 30 (.pick (.t 27) (.k (.bool true)) (.t 29))]) (.cond (.t 30) (.seq (.reg
 [o_ 4 (.mv (.k (.int .i64 0))),o_ 5 (.mv (.k (.bool false)))]) (.ret)) (.skip))) (.seq (.dreg [0,0,2,0,14,30,62,1,255] [m_ 31 6,o_ 32 (.fad 145 2 4 (.t 2)),o_ 33 (.ld1 102 (.t 32)),m_ 34 6,o_ 35 (.iad 126 7 (.t 33) (.t 34)),o_ 36 (.fad 126 0 0 (.t 35)),o_ 37 (.ld1 4 (.t 36)),m_ 4 31,m_ 5 37]) (.ret))))
def r1162:List RR:=[.t 4,.t 5]
theorem ok1162:okFn Go.Proofs.Tryz.prog 162 38 c1162 r1162 2=true:=by kernel_rfl
def c1163b0:SCode:=
 .seq (.reg [o_ 55 (.bin .lss (.t 54) (.t 53))]) (.seq (.cond (.t 55) (.skip) (.exit 2)) (.seq (.block 3 (.seq (.reg [m_ 56 54,m_ 10 56]) (.seq (.reg [o_ 57 (.fad 189 2 2 (.t 9)),o_ 58 (.ldf 116 (.t 57)),o_ 59 (.ldn 68 3 (.t 3)),m_ 60 1,m_ 61 10,o_ 62 (.call (.t 58) [.t 59,.t 60,.t 61]),m_ 63 2,o_ 64 (.bin .eql (.t 62) (.t 63))]) (.cond (.t 64) (.seq (.reg [o_ 65 (.fad 189 0 0 (.t 9)),o_ 66 (.ld1 3 (.t 65)),m_ 67 10,m_ 6 66,m_ 7 67]) (.ret)) (.skip))))) (.reg [o_ 68 (.bin .add (.t 54) (.k (.int .i64 1))),m_ 54 68])))
def c1163b1:SCode:=
 .seq (.reg [o_ 49 (.bin .lss (.t 48) (.t 47))]) (.seq (.cond (.t 49) (.skip) (.exit 0)) (.seq (.block 1 (.seq (.reg [o_ 50 (.iad 189 3 (.t 46) (.t 48)),o_ 51 (.ldn 189 3 (.t 50)),o_ 9 (.alloc 189 [.v (.int .i64 0),.v (.int .i64 0),.v .nilFunc]),n_ (.stn 189 3 (.t 9) (.t 51))]) (.seq (.reg [o_ 52 (.fad 189 1 1 (.t 9)),o_ 53 (.ld1 3 (.t 52)),o_ 54 (.mv (.k (.int .i64 0)))]) (.block 2 (.loop c1163b0))))) (.reg [o_ 69 (.bin .add (.t 48) (.k (.int .i64 1))),m_ 48 69])))
def c1163:SCode:=
 .seq (.reg [o_ 3 (.box 68 (.t 0)),o_ 6 (.mv (.k (.int .i64 0))),o_ 7 (.mv (.k (.int .i64 0)))]) (.seq (.seq (.reg [m_ 11 1,o_ 12 (.bin .lss (.t 11) (.k (.int .i64 0))),m_ 13 12,qm_ 14 13 1,q_ 15 13 (.bin .gtr (.t 14) (.k (.int .i64 65535))),o_ 16 (.pick (.t 13) (.k (.bool true)) (.t 15)),m_ 17 16,qm_ 18 17 2,qm_ 19 17 1,q_ 20 17 (.bin .lss (.t 18) (.t 19)),o_ 21 (.pick (.t 17) (.k (.bool true)) (.t 20)),m_ 22 21,qm_ 23 22 2,qm_ 24 22 1,q_ 25 22 (.bin .sub (.t 23) (.t 24)),q_ 26 22 (.ldn 68 3 (.t 3)),q_ 27 22 (.call (.f 94) [.t 26]),q_ 28 22 (.bin .geq (.t 25) (.t 27)),o_ 29 (.pick (.t 22) (.k (.bool true)) (.t 28))]) (.cond (.t 29) (.seq (.reg [o_ 6 (.mv (.k (.int .i64 0))),o_ 7 (.mv (.k (.int .i64 0)))]) (.ret)) (.skip))) (.seq (.seq (.reg [o_ 30 (.fad 68 0 0 (.t 3)),o_ 31 (.ld1 65 (.t 30)),o_ 32 (.len 65 (.t 31)),
 o_ 33 (.build 189 [.v (.int .i64 0),.v (.int .i64 0),.v .nilFunc] [(0,0,1,.k (.int .i64 3)),(1,1,1,.t 32),(2,2,1,.k (.func (.func 114) #[] #[]))]),o_ 34 (.fad 68 0 0 (.t 3)),o_ 35 (.ld1 65 (.t 34)),o_ 36 (.len 65 (.t 35)),o_ 37 (.build 189 [.v (.int .i64 0),.v (.int .i64 0),.v .nilFunc] [(0,0,1,.k (.int .i64 4)),(1,1,1,.t 36),(2,2,1,.k (.func (.func 115) #[] #[]))]),o_ 38 (.fad 68 1 1 (.t 3)),o_ 39 (.ld1 66 (.t 38)),o_ 40 (.len 66 (.t 39)),o_ 41 (.build 189 [.v (.int .i64 0),.v (.int .i64 0),.v .nilFunc] [(0,0,1,.k (.int .i64 5)),(1,1,1,.t 40),(2,2,1,.k (.func (.func 116) #[] #[]))]),o_ 42 (.fad 68 0 0 (.t 3)),o_ 43 (.ld1 65 (.t 42)),o_ 44 (.len 65 (.t 43)),o_ 45 (.build 189 [.v (.int .i64 0),.v (.int .i64 0),.v .nilFunc] [(0,0,1,.k (.int .i64 6)),(1,1,1,.t 44),(2,2,1,.k (.func (.func 117) #[] #[]))]),
 o_ 46 (.lit 189 3 24 [.t 33,.t 37,.t 41,.t 45]),o_ 47 (.len 190 (.t 46)),o_ 48 (.mv (.k (.int .i64 0)))]) (.block 0 (.loop c1163b1))) (.seq (.reg [o_ 6 (.mv (.k (.int .i64 0))),o_ 7 (.mv (.k (.int .i64 0)))]) (.ret))))
def r1163:List RR:=[.t 6,.t 7]
theorem ok1163:okFn Go.Proofs.Tryz.prog 163 70 c1163 r1163 3=true:=by kernel_rfl
def c1185:SCode:=
 .seq (.reg [o_ 2 (.box 145 (.t 0)),o_ 4 (.mv (.k (.bool false)))]) (.seq (.reg [m_ 5 1,o_ 6 (.mkfn 196 [] [.t 2]),o_ 7 (.call (.f 175) [.t 5,.t 6]),o_ 8 (.not (.t 7)),m_ 4 8]) (.ret))
def r1185:List RR:=[.t 4]
theorem ok1185:okFn Go.Proofs.Tryz.prog 185 9 c1185 r1185 2=true:=by kernel_rfl
def c1196:SCode:=
 .seq (.reg [o_ 2 (.box 63 (.t 0)),o_ 3 (.mv (.k (.bool false)))]) (.seq (.reg [o_ 4 (.ldn 145 6 (.t 1)),o_ 5 (.ldn 63 3 (.t 2)),o_ 6 (.call (.f 123) [.t 4,.t 5]),o_ 7 (.not (.t 6)),m_ 3 7]) (.ret))
def r1196:List RR:=[.t 3]
theorem ok1196:okFn Go.Proofs.Tryz.prog 196 8 c1196 r1196 2=true:=by kernel_rfl
def c1164:SCode:=
 .seq (.reg [o_ 2 (.box 145 (.t 0)),o_ 3 (.box 63 (.t 1)),o_ 4 (.mv (.k (.bool false)))]) (.seq (.reg [o_ 15 (.ldn 63 3 (.t 3)),o_ 16 (.call (.f 184) [.t 15]),m_ 14 16,o_ 17 (.ext (.t 14) 0),o_ 18 (.ext (.t 14) 1),o_ 5 (.alloc 63 [.v (.int .i64 0),.v (.int .i64 0),.cap 3 40 []]),n_ (.stn 63 3 (.t 5) (.t 17)),m_ 6 18]) (.seq (.seq (.reg [o_ 19 (.fad 63 0 0 (.t 5)),o_ 20 (.ld1 3 (.t 19)),o_ 21 (.bin .neq (.t 20) (.k (.int .i64 3)))]) (.cond (.t 21) (.seq (.reg [o_ 4 (.mv (.k (.bool false)))]) (.ret)) (.skip))) (.seq (.reg [o_ 23 (.fad 145 0 0 (.t 2)),o_ 24 (.ldn 68 3 (.t 23)),o_ 25 (.fad 145 1 3 (.t 2)),o_ 26 (.ld1 3 (.t 25)),o_ 27 (.fad 63 1 1 (.t 5)),o_ 28 (.ld1 3 (.t 27)),o_ 29 (.call (.f 163) [.t 24,.t 26,.t 28]),m_ 22 29,o_ 30 (.ext (.t 22) 0),o_ 31 (.ext (.t 22) 1),m_ 7 30,m_ 8 31]) (.seq (.seq (.reg [m_ 32 7,o_ 33 (.bin .neq (.t 32) (.k (.int .i64 4))),m_ 34 33,qm_ 35 34 6,
 q_ 36 34 (.len 61 (.t 35)),q_ 37 34 (.fad 145 0 0 (.t 2)),q_ 38 34 (.fad 68 0 0 (.t 37)),q_ 39 34 (.ld1 65 (.t 38)),qm_ 40 34 8,q_ 41 34 (.iad 104 6 (.t 39) (.t 40)),q_ 42 34 (.fad 104 0 0 (.t 41)),q_ 43 34 (.ld1 102 (.t 42)),q_ 44 34 (.len 102 (.t 43)),q_ 45 34 (.bin .add (.t 44) (.k (.int .i64 1))),q_ 46 34 (.bin .neq (.t 36) (.t 45)),o_ 47 (.pick (.t 34) (.k (.bool true)) (.t 46))]) (.cond (.t 47) (.seq (.reg [o_ 4 (.mv (.k (.bool false)))]) (.ret)) (.skip))) (.seq (.reg [m_ 48 6,o_ 49 (.len 61 (.t 48)),o_ 50 (.bin .sub (.t 49) (.k (.int .i64 1))),m_ 9 50]) (.seq (.reg [m_ 52 6,m_ 53 9,o_ 54 (.iad 63 3 (.t 52) (.t 53)),o_ 55 (.ldn 63 3 (.t 54)),o_ 56 (.call (.f 184) [.t 55]),m_ 51 56,o_ 57 (.ext (.t 51) 0),o_ 58 (.ext (.t 51) 1),o_ 10 (.alloc 63 [.v (.int .i64 0),.v (.int .i64 0),.cap 3 40 []]),n_ (.stn 63 3 (.t 10) (.t 57)),m_ 11 58]) (.seq (.reg [o_ 60 (.ldn 145 6 (.t 2)),
 o_ 61 (.ldn 63 3 (.t 10)),o_ 62 (.call (.f 162) [.t 60,.t 61]),m_ 59 62,o_ 63 (.ext (.t 59) 0),o_ 64 (.ext (.t 59) 1),m_ 12 63,m_ 13 64]) (.seq (.dreg [0,1,3,3,3,27,63,127,255,511,511,2047,4095,8191] [m_ 65 13,m_ 66 65,p_ 67 66 (.ldn 145 6 (.t 2)),pm_ 68 66 6,pm_ 69 66 9,p_ 70 66 (.slc 63 3 40 (.t 68) none (some (.t 69)) none),p_ 71 66 (.call (.f 185) [.t 67,.t 70]),o_ 72 (.pick (.t 66) (.t 71) (.k (.bool false))),m_ 73 72,p_ 74 73 (.ldn 145 6 (.t 2)),pm_ 75 73 11,p_ 76 73 (.call (.f 185) [.t 74,.t 75]),o_ 77 (.pick (.t 73) (.t 76) (.k (.bool false))),m_ 4 77]) (.ret)))))))))
def r1164:List RR:=[.t 4]
theorem ok1164:okFn Go.Proofs.Tryz.prog 164 78 c1164 r1164 2=true:=by kernel_rfl
def c1123b0:SCode:=
 .seq (.reg [o_ 46 (.bin .lss (.t 45) (.t 44))]) (.seq (.cond (.t 46) (.skip) (.exit 1)) (.seq (.block 2 (.seq (.reg [m_ 47 45,o_ 48 (.iad 63 3 (.t 43) (.t 45)),o_ 49 (.ldn 63 3 (.t 48)),o_ 10 (.alloc 63 [.v (.int .i64 0),.v (.int .i64 0),.cap 3 40 []]),m_ 9 47,n_ (.stn 63 3 (.t 10) (.t 49))]) (.seq (.dreg [0,0,2,0,14,31,0,127,255] [o_ 50 (.ldn 145 6 (.t 2)),o_ 51 (.fad 63 0 0 (.t 3)),o_ 52 (.ld1 3 (.t 51)),m_ 53 9,o_ 54 (.call (.f 154) [.t 52,.t 53]),o_ 55 (.call (.f 161) [.t 50,.t 54]),o_ 56 (.ldn 63 3 (.t 10)),o_ 57 (.call (.f 123) [.t 55,.t 56]),o_ 58 (.not (.t 57))]) (.cond (.t 58) (.seq (.reg [o_ 4 (.mv (.k (.bool false)))]) (.ret)) (.skip))))) (.reg [o_ 59 (.bin .add (.t 45) (.k (.int .i64 1))),m_ 45 59])))
def c1123:SCode:=
 .seq (.reg [o_ 2 (.box 145 (.t 0)),o_ 3 (.box 63 (.t 1)),o_ 4 (.mv (.k (.bool false)))]) (.seq (.seq (.reg [o_ 11 (.fad 63 0 0 (.t 3)),o_ 12 (.ld1 3 (.t 11))]) (.block 0 (.seq (.reg [o_ 14 (.bin .eql (.t 12) (.k (.int .i64 1))),m_ 13 14]) (.cond (.t 13) (.seq (.reg [o_ 16 (.ldn 145 6 (.t 2)),o_ 17 (.ldn 63 3 (.t 3)),o_ 18 (.call (.f 162) [.t 16,.t 17]),m_ 15 18,o_ 19 (.ext (.t 15) 0),o_ 20 (.ext (.t 15) 1),m_ 5 19,m_ 6 20]) (.seq (.reg [m_ 21 6,o_ 22 (.not (.t 21)),m_ 4 22]) (.ret))) (.seq (.reg [o_ 24 (.bin .eql (.t 12) (.k (.int .i64 3))),m_ 23 24]) (.cond (.t 23) (.seq (.reg [o_ 26 (.fad 145 0 0 (.t 2)),o_ 27 (.ldn 68 3 (.t 26)),o_ 28 (.fad 145 1 3 (.t 2)),o_ 29 (.ld1 3 (.t 28)),o_ 30 (.fad 63 1 1 (.t 3)),o_ 31 (.ld1 3 (.t 30)),o_ 32 (.call (.f 163) [.t 27,.t 29,.t 31]),m_ 25 32,o_ 33 (.ext (.t 25) 0),o_ 34 (.ext (.t 25) 1),m_ 7 33,m_ 8 34]) (.seq (.reg [m_ 35 7,
 o_ 36 (.bin .eql (.t 35) (.k (.int .i64 0))),m_ 4 36]) (.ret))) (.seq (.reg [o_ 38 (.bin .eql (.t 12) (.k (.int .i64 6))),m_ 37 38]) (.cond (.t 37) (.seq (.reg [o_ 39 (.ldn 145 6 (.t 2)),o_ 40 (.ldn 63 3 (.t 3)),o_ 41 (.call (.f 164) [.t 39,.t 40])]) (.cond (.t 41) (.seq (.reg [o_ 4 (.mv (.k (.bool true)))]) (.ret)) (.skip))) (.skip))))))))) (.seq (.seq (.reg [o_ 42 (.fad 63 2 2 (.t 3)),o_ 43 (.ld1 61 (.t 42)),o_ 44 (.len 61 (.t 43)),o_ 45 (.mv (.k (.int .i64 0)))]) (.block 1 (.loop c1123b0))) (.seq (.reg [o_ 4 (.mv (.k (.bool true)))]) (.ret))))
def r1123:List RR:=[.t 4]
theorem ok1123:okFn Go.Proofs.Tryz.prog 123 60 c1123 r1123 2=true:=by kernel_rfl
def c1165b0:SCode:=
 .seq (.reg [o_ 86 (.bin .lss (.t 85) (.t 84))]) (.seq (.cond (.t 86) (.skip) (.exit 0)) (.seq (.block 1 (.seq (.reg [m_ 87 85,o_ 88 (.iad 126 7 (.t 83) (.t 85)),o_ 89 (.ldn 126 7 (.t 88)),o_ 14 (.alloc 126 [.v (.bool false),.v (.int .i64 0),.v (.int .i64 0),.cap 3 40 [],.cap 3 40 [],.v (.int .i64 0),.cap 3 40 []]),m_ 13 87,n_ (.stn 126 7 (.t 14) (.t 89))]) (.seq (.dreg [0,0,0,6,14,31,63,127,127,255,1023] [o_ 91 (.ldn 145 6 (.t 3)),m_ 92 8,m_ 93 13,o_ 94 (.iad 63 3 (.t 92) (.t 93)),o_ 95 (.ldn 63 3 (.t 94)),o_ 96 (.call (.f 162) [.t 91,.t 95]),m_ 90 96,o_ 97 (.ext (.t 90) 0),o_ 98 (.ext (.t 90) 1),m_ 15 97,m_ 16 98]) (.block 2 (.seq (.seq (.dreg [0,1,3,7,15,15,15,111,239,511,1023,2047,4095] [o_ 100 (.fad 126 0 0 (.t 14)),o_ 101 (.ld1 4 (.t 100)),o_ 102 (.not (.t 101)),m_ 103 102,p_ 104 103 (.ldn 145 6 (.t 3)),pm_ 105 103 8,pm_ 106 103 13,
 p_ 107 103 (.iad 63 3 (.t 105) (.t 106)),p_ 108 103 (.ldn 63 3 (.t 107)),p_ 109 103 (.call (.f 123) [.t 104,.t 108]),p_ 110 103 (.not (.t 109)),o_ 111 (.pick (.t 103) (.t 110) (.k (.bool false))),m_ 99 111]) (.cond (.t 99) (.skip) (.seq (.dreg [0,1,3,7,15,31,63,127,255,511,511,511,3583,7679,511,32767,65535,131071,262143] [o_ 112 (.fad 126 0 0 (.t 14)),o_ 113 (.ld1 4 (.t 112)),m_ 114 113,p_ 115 114 (.fad 126 2 4 (.t 14)),p_ 116 114 (.ld1 61 (.t 115)),p_ 117 114 (.len 61 (.t 116)),p_ 118 114 (.bin .eql (.t 117) (.k (.int .i64 0))),o_ 119 (.pick (.t 114) (.t 118) (.k (.bool false))),m_ 120 119,p_ 121 120 (.ldn 145 6 (.t 3)),pm_ 122 120 8,pm_ 123 120 13,p_ 124 120 (.iad 63 3 (.t 122) (.t 123)),p_ 125 120 (.ldn 63 3 (.t 124)),pm_ 126 120 2,p_ 127 120 (.call (.f 165) [.t 121,.t 125,.t 126]),p_ 128 120 (.not (.t 127)),o_ 129 (.pick (.t 120) (.t 128) (.k (.bool false))),
 m_ 99 129]) (.cond (.t 99) (.skip) (.reg [o_ 130 (.fad 126 0 0 (.t 14)),o_ 131 (.ld1 4 (.t 130)),m_ 132 131,p_ 133 132 (.fad 126 2 4 (.t 14)),p_ 134 132 (.ld1 61 (.t 133)),p_ 135 132 (.len 61 (.t 134)),p_ 136 132 (.bin .gtr (.t 135) (.k (.int .i64 0))),o_ 137 (.pick (.t 132) (.t 136) (.k (.bool false))),m_ 138 137,pm_ 139 138 16,p_ 140 138 (.not (.t 139)),o_ 141 (.pick (.t 138) (.t 140) (.k (.bool false))),m_ 99 141]))))) (.cond (.t 99) (.seq (.reg [o_ 6 (.mv (.k (.bool false)))]) (.ret)) (.skip))))))) (.reg [o_ 142 (.bin .add (.t 85) (.k (.int .i64 1))),m_ 85 142])))
def c1165:SCode:=
 .seq (.reg [o_ 3 (.box 145 (.t 0)),o_ 4 (.box 63 (.t 1)),o_ 6 (.mv (.k (.bool false)))]) (.seq (.reg [o_ 18 (.ldn 63 3 (.t 4)),o_ 19 (.call (.f 184) [.t 18]),m_ 17 19,o_ 20 (.ext (.t 17) 0),o_ 21 (.ext (.t 17) 1),o_ 7 (.alloc 63 [.v (.int .i64 0),.v (.int .i64 0),.cap 3 40 []]),n_ (.stn 63 3 (.t 7) (.t 20)),m_ 8 21]) (.seq (.reg [o_ 23 (.ldn 145 6 (.t 3)),o_ 24 (.ldn 63 3 (.t 7)),o_ 25 (.call (.f 162) [.t 23,.t 24]),m_ 22 25,o_ 26 (.ext (.t 22) 0),o_ 27 (.ext (.t 22) 1),m_ 9 26,m_ 10 27]) (.seq (.seq (.reg [m_ 28 10]) (.cond (.t 28) (.seq (.reg [m_ 29 8,o_ 30 (.len 61 (.t 29)),o_ 31 (.fad 145 2 4 (.t 3)),o_ 32 (.ld1 102 (.t 31)),m_ 33 9,o_ 34 (.iad 126 7 (.t 32) (.t 33)),o_ 35 (.fad 126 2 4 (.t 34)),o_ 36 (.ld1 61 (.t 35)),o_ 37 (.len 61 (.t 36)),o_ 38 (.bin .eql (.t 30) (.t 37)),m_ 39 38,p_ 40 39 (.ldn 145 6 (.t 3)),pm_ 41 39 8,p_ 42 39 (.call (.f 185) [.t 40,.t 41]),
 o_ 43 (.pick (.t 39) (.t 42) (.k (.bool false))),m_ 6 43]) (.ret)) (.skip))) (.seq (.seq (.reg [o_ 44 (.fad 63 0 0 (.t 7)),o_ 45 (.ld1 3 (.t 44)),o_ 46 (.bin .neq (.t 45) (.k (.int .i64 3)))]) (.cond (.t 46) (.seq (.reg [o_ 6 (.mv (.k (.bool false)))]) (.ret)) (.skip))) (.seq (.reg [o_ 48 (.fad 145 0 0 (.t 3)),o_ 49 (.ldn 68 3 (.t 48)),o_ 50 (.fad 145 1 3 (.t 3)),o_ 51 (.ld1 3 (.t 50)),o_ 52 (.fad 63 1 1 (.t 7)),o_ 53 (.ld1 3 (.t 52)),o_ 54 (.call (.f 163) [.t 49,.t 51,.t 53]),m_ 47 54,o_ 55 (.ext (.t 47) 0),o_ 56 (.ext (.t 47) 1),m_ 11 55,m_ 12 56]) (.seq (.seq (.reg [m_ 57 11,o_ 58 (.bin .neq (.t 57) (.k (.int .i64 5))),m_ 59 58,qm_ 60 59 12,qm_ 61 59 2,q_ 62 59 (.bin .geq (.t 60) (.t 61)),o_ 63 (.pick (.t 59) (.k (.bool true)) (.t 62)),m_ 64 63,qm_ 65 64 8,q_ 66 64 (.len 61 (.t 65)),q_ 67 64 (.fad 145 0 0 (.t 3)),q_ 68 64 (.fad 68 1 1 (.t 67)),q_ 69 64 (.ld1 66 (.t 68)),
 qm_ 70 64 12,q_ 71 64 (.iad 106 6 (.t 69) (.t 70)),q_ 72 64 (.fad 106 1 1 (.t 71)),q_ 73 64 (.ld1 102 (.t 72)),q_ 74 64 (.len 102 (.t 73)),q_ 75 64 (.bin .neq (.t 66) (.t 74)),o_ 76 (.pick (.t 64) (.k (.bool true)) (.t 75))]) (.cond (.t 76) (.seq (.reg [o_ 6 (.mv (.k (.bool false)))]) (.ret)) (.skip))) (.seq (.seq (.reg [o_ 77 (.fad 145 0 0 (.t 3)),o_ 78 (.fad 68 1 1 (.t 77)),o_ 79 (.ld1 66 (.t 78)),m_ 80 12,o_ 81 (.iad 106 6 (.t 79) (.t 80)),o_ 82 (.fad 106 1 1 (.t 81)),o_ 83 (.ld1 102 (.t 82)),o_ 84 (.len 102 (.t 83)),o_ 85 (.mv (.k (.int .i64 0)))]) (.block 0 (.loop c1165b0))) (.seq (.reg [o_ 6 (.mv (.k (.bool true)))]) (.ret)))))))))
def r1165:List RR:=[.t 6]
theorem ok1165:okFn Go.Proofs.Tryz.prog 165 143 c1165 r1165 3=true:=by kernel_rfl
def c1124b0:SCode:=
 .seq (.reg [o_ 20 (.bin .lss (.t 19) (.t 18))]) (.seq (.cond (.t 20) (.skip) (.exit 0)) (.seq (.block 1 (.seq (.reg [m_ 21 19,o_ 22 (.iad 126 7 (.t 17) (.t 19)),o_ 23 (.ldn 126 7 (.t 22)),o_ 10 (.alloc 126 [.v (.bool false),.v (.int .i64 0),.v (.int .i64 0),.cap 3 40 [],.cap 3 40 [],.v (.int .i64 0),.cap 3 40 []]),m_ 9 21,n_ (.stn 126 7 (.t 10) (.t 23))]) (.seq (.dreg [0,1,3,7,7,7,55,119,7,511,1023,2047,4095,8191,16383,32767,65535,131071,131071,131071,917503,1966079,4194303,8388607,16777215,33554431] [o_ 24 (.fad 126 0 0 (.t 10)),o_ 25 (.ld1 4 (.t 24)),m_ 26 25,p_ 27 26 (.ldn 145 6 (.t 4)),pm_ 28 26 2,pm_ 29 26 9,p_ 30 26 (.iad 63 3 (.t 28) (.t 29)),p_ 31 26 (.ldn 63 3 (.t 30)),pm_ 32 26 3,p_ 33 26 (.call (.f 165) [.t 27,.t 31,.t 32]),p_ 34 26 (.not (.t 33)),o_ 35 (.pick (.t 26) (.t 34) (.k (.bool false))),m_ 36 35,q_ 37 36 (.fad 126 0 0 (.t 10)),
 q_ 38 36 (.ld1 4 (.t 37)),q_ 39 36 (.not (.t 38)),qm_ 40 36 39,p_ 41 40 (.ldn 145 6 (.t 4)),pm_ 42 40 2,pm_ 43 40 9,p_ 44 40 (.iad 63 3 (.t 42) (.t 43)),p_ 45 40 (.ldn 63 3 (.t 44)),p_ 46 40 (.call (.f 123) [.t 41,.t 45]),p_ 47 40 (.not (.t 46)),q_ 48 36 (.pick (.t 40) (.t 47) (.k (.bool false))),o_ 49 (.pick (.t 36) (.k (.bool true)) (.t 48))]) (.cond (.t 49) (.seq (.reg [o_ 8 (.mv (.k (.bool false)))]) (.ret)) (.skip))))) (.reg [o_ 50 (.bin .add (.t 19) (.k (.int .i64 1))),m_ 19 50])))
def c1124:SCode:=
 .seq (.reg [o_ 4 (.box 145 (.t 0)),o_ 8 (.mv (.k (.bool false)))]) (.seq (.seq (.reg [o_ 11 (.fad 145 0 0 (.t 4)),o_ 12 (.fad 68 0 0 (.t 11)),o_ 13 (.ld1 65 (.t 12)),m_ 14 1,o_ 15 (.iad 104 6 (.t 13) (.t 14)),o_ 16 (.fad 104 0 0 (.t 15)),o_ 17 (.ld1 102 (.t 16)),o_ 18 (.len 102 (.t 17)),o_ 19 (.mv (.k (.int .i64 0)))]) (.block 0 (.loop c1124b0))) (.seq (.reg [o_ 8 (.mv (.k (.bool true)))]) (.ret)))
def r1124:List RR:=[.t 8]
theorem ok1124:okFn Go.Proofs.Tryz.prog 124 51 c1124 r1124 4=true:=by kernel_rfl
def w1122_0:List (List Nat):=[[],[],[],[],[],[],[1122011],[1122011]]
def f1122_0:List (List Nat):=[[1122011],[1122011],[1122011],[1122011],[1122011],[1122011],[],[]]
def c1122b0:SCode:=
 .seq (.reg [o_ 39 (.bin .lss (.t 38) (.t 37))]) (.seq (.cond (.t 39) (.skip) (.exit 2)) (.seq (.block 3 (.seq (.reg [m_ 40 38,o_ 41 (.iad 63 3 (.t 36) (.t 38)),o_ 42 (.ldn 63 3 (.t 41)),o_ 13 (.alloc 63 [.v (.int .i64 0),.v (.int .i64 0),.cap 3 40 []]),m_ 12 40,n_ (.stn 63 3 (.t 13) (.t 42))]) (.seq (.dreg [0,0,3,0,15,31] [o_ 43 (.ldn 145 6 (.t 11)),m_ 44 12,o_ 45 (.call (.f 161) [.t 43,.t 44]),o_ 46 (.ldn 63 3 (.t 13)),o_ 47 (.call (.f 123) [.t 45,.t 46]),o_ 48 (.not (.t 47))]) (.cond (.t 48) (.seq (.reg [o_ 8 (.mv (.k (.bool false)))]) (.ret)) (.skip))))) (.reg [o_ 49 (.bin .add (.t 38) (.k (.int .i64 1))),m_ 38 49])))
def c1122b1:SCode:=
 .seq (.reg [o_ 17 (.bin .lss (.t 16) (.t 15))]) (.seq (.cond (.t 17) (.skip) (.exit 0)) (.seq (.block 1 (.seq (.reg [m_ 18 16,o_ 19 (.iad 126 7 (.t 14) (.t 16)),o_ 20 (.ldn 126 7 (.t 19)),o_ 10 (.alloc 126 [.v (.bool false),.v (.int .i64 0),.v (.int .i64 0),.cap 3 40 [],.cap 3 40 [],.v (.int .i64 0),.cap 3 40 []]),m_ 9 18,n_ (.stn 126 7 (.t 10) (.t 20))]) (.seq (.dreg [0,0,0,0,12,31,0,127] [o_ 21 (.ldn 68 3 (.t 4)),m_ 22 1,m_ 23 2,m_ 24 9,o_ 25 (.slc 126 7 104 (.t 23) none (some (.t 24)) none),o_ 26 (.build 145 [.cap 6 80 [],.cap 6 96 [],.v (.int .i64 0),.v (.int .i64 0),.cap 7 104 [],.v (.int .i64 0)] [(0,0,3,.t 21),(1,3,1,.t 22),(2,4,1,.t 25)]),o_ 11 (.alloc 145 [.cap 6 80 [],.cap 6 96 [],.v (.int .i64 0),.v (.int .i64 0),.cap 7 104 [],.v (.int .i64 0)]),n_ (.stn 145 6 (.t 11) (.t 26))]) (.seq (.seq (.reg [o_ 27 (.fad 126 0 0 (.t 10)),
 o_ 28 (.ld1 4 (.t 27)),o_ 29 (.not (.t 28))]) (.cond (.t 29) (.seq (.seq (.reg [o_ 30 (.ldn 145 6 (.t 11)),o_ 31 (.fad 126 1 1 (.t 10)),o_ 32 (.ldn 63 3 (.t 31)),o_ 33 (.call (.f 123) [.t 30,.t 32]),o_ 34 (.not (.t 33))]) (.cond (.t 34) (.seq (.reg [o_ 8 (.mv (.k (.bool false)))]) (.ret)) (.skip))) (.exit 1)) (.skip))) (.seq (.seq (.reg [o_ 35 (.fad 126 2 4 (.t 10)),o_ 36 (.ld1 61 (.t 35)),o_ 37 (.len 61 (.t 36)),o_ 38 (.mv (.k (.int .i64 0)))]) (.block 2 (.loop c1122b0))) (.seq (.dreg [0,0,2,6,15,0,32,0,128,0,1023,2047] [o_ 50 (.ldn 145 6 (.t 11)),o_ 51 (.fad 126 2 4 (.t 10)),o_ 52 (.ld1 61 (.t 51)),o_ 53 (.len 61 (.t 52)),o_ 54 (.call (.f 161) [.t 50,.t 53]),o_ 55 (.fad 126 3 5 (.t 10)),o_ 56 (.ld1 3 (.t 55)),o_ 57 (.fad 126 4 6 (.t 10)),o_ 58 (.ld1 61 (.t 57)),m_ 59 3,o_ 60 (.call (.f 124) [.t 54,.t 56,.t 58,.t 59]),o_ 61 (.not (.t 60))]) (.cond (.t 61) (.seq (.reg
 [o_ 8 (.mv (.k (.bool false)))]) (.ret)) (.skip)))))))) (.reg [o_ 62 (.bin .add (.t 16) (.k (.int .i64 1))),m_ 16 62])))
def c1122:SCode:=
 .seq (.reg [o_ 4 (.box 68 (.t 0)),o_ 8 (.mv (.k (.bool false)))]) (.seq (.seq (.reg [m_ 14 2,o_ 15 (.len 102 (.t 14)),o_ 16 (.mv (.k (.int .i64 0)))]) (.block 0 (.loop c1122b1))) (.seq (.reg [o_ 8 (.mv (.k (.bool true)))]) (.ret)))
def r1122:List RR:=[.t 8]
theorem ok1122:okFn Go.Proofs.Tryz.prog 122 63 c1122 r1122 4=true:=by kernel_rfl
def c1092b0:SCode:=
 .seq (.reg [o_ 29 (.bin .lss (.t 28) (.t 27))]) (.seq (.cond (.t 29) (.skip) (.exit 1)) (.seq (.block 2 (.seq (.reg [o_ 30 (.iad 104 6 (.t 26) (.t 28)),o_ 31 (.ldn 104 6 (.t 30)),o_ 7 (.alloc 104 [.cap 7 104 [],.v (.int .i64 0),.v (.bool false),.v (.int .i64 0),.v (.int .i64 0),.cap 3 40 []]),n_ (.stn 104 6 (.t 7) (.t 31))]) (.seq (.reg [o_ 32 (.ldn 68 3 (.t 2)),m_ 33 1,o_ 34 (.fad 104 0 0 (.t 7)),o_ 35 (.ld1 102 (.t 34)),o_ 36 (.build 145 [.cap 6 80 [],.cap 6 96 [],.v (.int .i64 0),.v (.int .i64 0),.cap 7 104 [],.v (.int .i64 0)] [(0,0,3,.t 32),(1,3,1,.t 33),(2,4,1,.t 35)]),o_ 8 (.alloc 145 [.cap 6 80 [],.cap 6 96 [],.v (.int .i64 0),.v (.int .i64 0),.cap 7 104 [],.v (.int .i64 0)]),n_ (.stn 145 6 (.t 8) (.t 36))]) (.seq (.reg [o_ 37 (.ldn 68 3 (.t 2)),m_ 38 1,o_ 39 (.fad 104 0 0 (.t 7)),o_ 40 (.ld1 102 (.t 39)),
 o_ 41 (.call (.f 122) [.t 37,.t 38,.t 40,.k (.int .i64 0)]),o_ 42 (.not (.t 41)),m_ 43 42,q_ 44 43 (.fad 104 2 2 (.t 7)),q_ 45 43 (.ld1 4 (.t 44)),qm_ 46 43 45,p_ 47 46 (.ldn 145 6 (.t 8)),p_ 48 46 (.fad 104 3 3 (.t 7)),p_ 49 46 (.ldn 63 3 (.t 48)),p_ 50 46 (.call (.f 123) [.t 47,.t 49]),p_ 51 46 (.not (.t 50)),q_ 52 43 (.pick (.t 46) (.t 51) (.k (.bool false))),o_ 53 (.pick (.t 43) (.k (.bool true)) (.t 52))]) (.cond (.t 53) (.seq (.reg [o_ 4 (.mv (.k (.int .i64 11)))]) (.ret)) (.skip)))))) (.reg [o_ 54 (.bin .add (.t 28) (.k (.int .i64 1))),m_ 28 54])))
def c1092b1:SCode:=
 .seq (.reg [o_ 59 (.bin .lss (.t 58) (.t 57))]) (.seq (.cond (.t 59) (.skip) (.exit 3)) (.seq (.block 4 (.seq (.reg [m_ 60 58,o_ 61 (.iad 106 6 (.t 56) (.t 58)),o_ 62 (.ldn 106 6 (.t 61)),o_ 10 (.alloc 106 [.v (.int .i64 0),.cap 7 104 [],.cap 3 40 [],.v (.int .i64 0),.v (.int .i64 0),.cap 3 40 []]),m_ 9 60,n_ (.stn 106 6 (.t 10) (.t 62))]) (.seq (.reg [o_ 63 (.ldn 68 3 (.t 2)),m_ 64 1,o_ 65 (.fad 106 1 1 (.t 10)),o_ 66 (.ld1 102 (.t 65)),o_ 67 (.build 145 [.cap 6 80 [],.cap 6 96 [],.v (.int .i64 0),.v (.int .i64 0),.cap 7 104 [],.v (.int .i64 0)] [(0,0,3,.t 63),(1,3,1,.t 64),(2,4,1,.t 66)]),o_ 11 (.alloc 145 [.cap 6 80 [],.cap 6 96 [],.v (.int .i64 0),.v (.int .i64 0),.cap 7 104 [],.v (.int .i64 0)]),n_ (.stn 145 6 (.t 11) (.t 67))]) (.seq (.reg [o_ 68 (.ldn 68 3 (.t 2)),m_ 69 1,o_ 70 (.fad 106 1 1 (.t 10)),o_ 71 (.ld1 102 (.t 70)),m_ 72 9,
 o_ 73 (.call (.f 122) [.t 68,.t 69,.t 71,.t 72]),o_ 74 (.not (.t 73)),m_ 75 74,q_ 76 75 (.ldn 145 6 (.t 11)),q_ 77 75 (.fad 106 0 0 (.t 10)),q_ 78 75 (.ld1 3 (.t 77)),q_ 79 75 (.fad 106 2 2 (.t 10)),q_ 80 75 (.ld1 61 (.t 79)),qm_ 81 75 9,q_ 82 75 (.call (.f 124) [.t 76,.t 78,.t 80,.t 81]),q_ 83 75 (.not (.t 82)),o_ 84 (.pick (.t 75) (.k (.bool true)) (.t 83)),m_ 85 84,q_ 86 85 (.fad 68 0 0 (.t 2)),q_ 87 85 (.ld1 65 (.t 86)),q_ 88 85 (.fad 106 0 0 (.t 10)),q_ 89 85 (.ld1 3 (.t 88)),q_ 90 85 (.iad 104 6 (.t 87) (.t 89)),q_ 91 85 (.fad 104 2 2 (.t 90)),q_ 92 85 (.ld1 4 (.t 91)),qm_ 93 85 92,p_ 94 93 (.ldn 145 6 (.t 11)),p_ 95 93 (.fad 106 3 3 (.t 10)),p_ 96 93 (.ldn 63 3 (.t 95)),p_ 97 93 (.call (.f 123) [.t 94,.t 96]),p_ 98 93 (.not (.t 97)),q_ 99 85 (.pick (.t 93) (.t 98) (.k (.bool false))),o_ 100 (.pick (.t 85) (.k (.bool true)) (.t 99))]) (.cond (.t 100) (.seq (.reg
 [o_ 4 (.mv (.k (.int .i64 11)))]) (.ret)) (.skip)))))) (.reg [o_ 101 (.bin .add (.t 58) (.k (.int .i64 1))),m_ 58 101])))
def c1092:SCode:=
 .seq (.reg [o_ 2 (.box 68 (.t 0)),o_ 4 (.mv (.k (.int .i64 0)))]) (.seq (.reg [o_ 12 (.ldn 68 3 (.t 2)),o_ 13 (.call (.f 121) [.t 12]),m_ 5 13]) (.seq (.block 0 (.seq (.reg [m_ 15 5,o_ 16 (.bin .neq (.t 15) (.k (.int .i64 0))),m_ 14 16]) (.cond (.t 14) (.seq (.reg [m_ 17 5,m_ 4 17]) (.ret)) (.seq (.reg [m_ 19 1,o_ 20 (.bin .lss (.t 19) (.k (.int .i64 0))),m_ 21 20,qm_ 22 21 1,q_ 23 21 (.bin .gtr (.t 22) (.k (.int .i64 65535))),o_ 24 (.pick (.t 21) (.k (.bool true)) (.t 23)),m_ 18 24]) (.cond (.t 18) (.seq (.reg [o_ 4 (.mv (.k (.int .i64 1)))]) (.ret)) (.skip)))))) (.seq (.seq (.reg [o_ 25 (.fad 68 0 0 (.t 2)),o_ 26 (.ld1 65 (.t 25)),o_ 27 (.len 65 (.t 26)),o_ 28 (.mv (.k (.int .i64 0)))]) (.block 1 (.loop c1092b0))) (.seq (.seq (.reg [o_ 55 (.fad 68 1 1 (.t 2)),o_ 56 (.ld1 66 (.t 55)),o_ 57 (.len 66 (.t 56)),o_ 58 (.mv (.k (.int .i64 0)))]) (.block 3 (.loop c1092b1))) (.seq (.reg
 [o_ 4 (.mv (.k (.int .i64 0)))]) (.ret))))))
def r1092:List RR:=[.t 4]
theorem ok1092:okFn Go.Proofs.Tryz.prog 92 102 c1092 r1092 2=true:=by kernel_rfl
end Go.Abs

namespace Go.Abs
open Go.Proofs
def T.two (t:T) (k:Int):Bool:=decide (t.kind=k) && decide (t.kids.length=2)
theorem fn1194 (t:T) (k:Int):Fn Tryz.prog 194 [tm t,ib k] (bb (t.two k)):=by
 refine fn_of (base:=1194000) ok1194 rfl fun σ h0 hr=>?_
 have s0:σ.sl 0=tm t:=h0 0
 have s1:σ.sl 1=.c (.v (.int .i64 k)):=h0 1
 obtain ⟨k',n,ts⟩:=t
 simp only [tm,cells_mk] at s0
 clear h0 hr
 unfold c1194
 by_cases c1:k'=k
 ·by_cases c2:ts.length=2
  ·have c2':(ts.length:Int)=2:=by omega
   simp [s0,s1,c1,c2,c2',r1194,bb,T.two,T.kind,T.kids]
  ·have c2':¬ (ts.length:Int)=2:=by omega
   simp [s0,s1,c1,c2,c2',r1194,bb,T.two,T.kind,T.kids]
 ·simp [s0,s1,c1,r1194,bb,T.two,T.kind,T.kids]
def w1195:List (List Nat):=[[],[],[],[],[],[],[],[],[],[],[],[],[],[1184013],[],[1184013]]
def f1195:List (List Nat):=[[],[],[1184013],[1184013],[],[],[],[],[],[],[],[],[],[],[],[]]
def rvs (l:List T) (i:Nat):List T:=l.reverse.take i ++ (l.drop i).take (l.length - 2 * i) ++ l.reverse.drop (l.length - i)
def trow (l:List T):Obj:=.mrow 63 3 40 (l.map T.cells)
theorem rvs_zero (l:List T):rvs l 0=l:=by simp [rvs]
theorem rvs_len {l:List T} {i:Nat} (h:2 * i ≤ l.length):(rvs l i).length=l.length:=by simp [rvs];omega
theorem rvs_get {l:List T} {i:Nat} (h:2 * i ≤ l.length) (k:Nat) (hk:k < l.length):(rvs l i)[k]? = if i ≤ k ∧ k < l.length - i then l[k]? else l[l.length - 1 - k]?:=by
 unfold rvs
 by_cases h1:k < i
 ·rw [if_neg (by omega),List.append_assoc,List.getElem?_append_left (by simp;omega),List.getElem?_take,if_pos h1,List.getElem?_reverse hk]
 ·by_cases h2:k < l.length - i
  ·rw [if_pos ⟨by omega,h2⟩,List.append_assoc,List.getElem?_append_right (by simp;omega),List.getElem?_append_left (by simp;omega),List.getElem?_take,if_pos (by simp;omega),List.getElem?_drop]
   congr 1;simp;omega
  ·rw [if_neg (by omega),List.getElem?_append_right (by simp;omega),List.getElem?_drop,← List.getElem?_reverse hk]
   congr 1;simp;omega
theorem rvs_step {l:List T} {i:Nat} (h:2 * i + 1 < l.length) {x y:T} (hx:l[i]? = some x) (hy:l[l.length - 1 - i]? = some y):((rvs l i).set i y).set (l.length - 1 - i) x=rvs l (i + 1):=by
 refine List.ext_getElem? fun k=>?_
 have hl:=rvs_len (l:=l) (i:=i) (by omega)
 have hl2:=rvs_len (l:=l) (i:=i + 1) (by omega)
 by_cases hk:k < l.length
 ·rw [rvs_get (by omega) k hk,List.getElem?_set,List.getElem?_set,rvs_get (by omega) k hk]
  by_cases e1:l.length - 1 - i=k
  ·subst e1
   simp [hl]
   rw [if_pos (by omega),if_neg (by omega)]
   rw [← hx];congr 1;omega
  ·rw [if_neg e1]
   by_cases e2:i=k
   ·subst e2
    simp [hl]
    rw [if_pos (by omega),if_neg (by omega)]
    exact hy.symm
   ·rw [if_neg e2]
    by_cases e3:i ≤ k ∧ k < l.length - i
    ·rw [if_pos e3,if_pos (by omega)]
    ·rw [if_neg e3,if_neg (by omega)]
 ·rw [List.getElem?_eq_none (by simp [hl];omega),List.getElem?_eq_none (by omega)]
theorem rvs_end {l:List T} {i:Nat} (h:2 * i ≤ l.length) (h2:l.length ≤ 2 * i + 1):rvs l i=l.reverse:=by
 refine List.ext_getElem? fun k=>?_
 by_cases hk:k < l.length
 ·rw [rvs_get h k hk,List.getElem?_reverse hk]
  by_cases e:i ≤ k ∧ k < l.length - i
  ·rw [if_pos e];congr 1;omega
  ·rw [if_neg e]
 ·rw [List.getElem?_eq_none (by rw [rvs_len h];omega),List.getElem?_eq_none (by simp;omega)]
theorem sp1195 (tn:Nat) (l:List T) (hl:l.length ≤ 1048576):Spec Tryz.prog 195 [.c (.own 1184013 tn)] [(1184013,tn,trow l)] (.tup []) [(1184013,tn,trow l.reverse)]:=by
 refine spec_one (base:=1195000) ok1195 rfl fun σ h0 oK gK hr=>?_
 have s0:σ.sl 0=.c (.own 1184013 tn):=h0 0
 clear h0 hr
 unfold c1195
 simp only [trow] at oK
 have w0:IntKind.wrap .i64 ((l.length:Int) - 1)=(l.length:Int) - 1:=wrap_id (by omega) (by omega)
 simp [s0,oK,gK,w0,-W_block]
 rw [W_block]
 refine W_loop (fun m σ=>∃ i:Nat,2 * i + m=l.length + 1 ∧ 2 * i ≤ l.length + 0 ∧ σ.sl 0=.c (.own 1184013 tn) ∧ σ.tg 1184013=tn ∧ σ.ob 1184013=some (.mrow 63 3 40 ((rvs l i).map T.cells)) ∧ σ.sl 2=.c (.v (.int .i64 i)) ∧ σ.sl 3=.c (.v (.int .i64 ((l.length:Int) - 1 - i)))) (l.length + 1) ?_ ?_
 ·exact ⟨0,by omega,by omega,by simp [s0],by simp [gK],by simp [oK,rvs_zero],by simp,by simp⟩
 clear s0 oK gK σ
 rintro m σ ⟨i,hm,hi2,s0,gK,oK,s2,s3⟩
 unfold c1195b0
 by_cases hi:2 * i + 1 < l.length
 ·have c1:(i:Int) < (l.length:Int) - 1 - i:=by omega
  obtain ⟨j,hj⟩:∃ j:Nat,j=l.length - 1 - i:=⟨_,rfl⟩
  have hjc:(l.length:Int) - 1 - i=(j:Int):=by omega
  rw [hjc] at s3 c1
  have w1:=wrap_succ (i:=i) (by omega)
  have w2:IntKind.wrap .i64 ((j:Int) - 1)=(l.length:Int) - 1 - (i + 1:Nat):=by rw [wrap_id (by omega) (by omega)];omega
  obtain ⟨x,hx⟩:=at_of (ts:=l) (i:=i) (by omega)
  obtain ⟨y,hy⟩:=at_of (ts:=l) (i:=j) (by omega)
  have hsl:=rvs_len (l:=l) (i:=i) (by omega)
  have hx1:(rvs l i)[i]? = some x:=by rw [rvs_get (by omega) i (by omega),if_pos (by omega)];exact hx
  have hy1:(rvs l i)[j]? = some y:=by rw [rvs_get (by omega) j (by omega),if_pos (by omega)];exact hy
  obtain ⟨hx2,hx3⟩:=getE hx1
  obtain ⟨hy2,hy3⟩:=getE hy1
  have hst:=rvs_step hi hx (by rw [← hj];exact hy)
  rw [← hj] at hst
  simp [s0,s2,s3,c1]
  refine W_dregD w1195 f1195 (by decide) ?_
  unfold w1195 f1195
  have e:((List.map T.cells (rvs l i)).set i y.cells).set j x.cells=List.map T.cells (rvs l (i + 1)):=by rw [← hst,List.map_set,List.map_set]
  have hij:¬ i=j:=by omega
  obtain ⟨kx,nx,tx⟩:=x
  obtain ⟨ky,ny,ty⟩:=y
  simp only [cells_mk] at e
  simp [s0,gK,oK,s2,s3,c1,hx2,hx3,hy2,hy3,cells_mk,List.getElem_set,hij,keysCs,e]
  refine realC_n ?_
  simp [s2,s3,w1,w2]
  exact ⟨m - 2,by omega,i + 1,by omega,by omega,by simp [s0],by simp [gK],by simp⟩
 ·have c1:¬ (i:Int) < (l.length:Int) - 1 - i:=by omega
  simp [s0,s2,s3,c1]
  refine EndU_one ?_ ?_ ?_ ?_ <;> simp [r1195,trow,oK,gK]
  rw [rvs_end (by omega) (by omega),List.map_reverse]
def T.split:T → T × List T
 | .mk k n [f,a]=>if k=6 then ((T.split f).1,(T.split f).2 ++ [a]) else (.mk k n [f,a],[])
 | t=>(t,[])
theorem split_app (n:Int) (f a:T):T.split (.mk 6 n [f,a])=((T.split f).1,(T.split f).2 ++ [a]):=by rw [T.split];simp
theorem split_no {t:T} (h:t.two 6=false):T.split t=(t,[]):=by
 obtain ⟨k,n,ts⟩:=t
 match ts with
 | []=>rw [T.split];simp
 | [_]=>rw [T.split];simp
 | [f,a]=>
  rw [T.split]
  have:k ≠ 6:=by intro e;simp [T.two,e,T.kind,T.kids] at h
  rw [if_neg this]
 | _ :: _ :: _ :: _=>rw [T.split];simp
theorem two_is {t:T} (h:t.two 6=true):∃ n f a,t=.mk 6 n [f,a]:=by
 obtain ⟨k,n,ts⟩:=t
 have h':=Bool.and_eq_true_iff.1 h
 have h1:k=6:=of_decide_eq_true h'.1
 have h2:ts.length=2:=of_decide_eq_true h'.2
 subst h1
 match ts,h2 with
 | [f,a],_=>exact ⟨n,f,a,rfl⟩
def accO (acc:List T) (q:Option Obj):Prop:=(acc=[] ∧ q=some (.row 63 3 40 [])) ∨ q=some (trow acc)
theorem fn1195n:Fn Tryz.prog 195 [tms []] (.tup []):=by
 refine fn_of (base:=1195000) ok1195 rfl fun σ h0 hr=>?_
 have s0:σ.sl 0=.c (.sl 3 40 []):=h0 0
 clear h0 hr
 unfold c1195
 have w0:IntKind.wrap .i64 ((0:Int) - 1)=-1:=by decide
 have w0':IntKind.wrap .i64 (-1:Int)=-1:=by decide
 simp [s0,w0,w0',-W_block]
 rw [W_block]
 refine W_loop (fun m σ=>σ.sl 0=.c (.sl 3 40 []) ∧ σ.sl 2=.c (.v (.int .i64 0)) ∧ σ.sl 3=.c (.v (.int .i64 (-1)))) 1 ?_ ?_
 ·exact ⟨by simp [s0],by simp,by simp⟩
 clear s0 σ
 rintro m σ ⟨s0,s2,s3⟩
 unfold c1195b0
 simp [s0,s2,s3,r1195]
theorem fn1184 (t:T) (hc:t.count ≤ 1048576):Fn Tryz.prog 184 [tm t] (.tup [tm t.split.1,tms t.split.2]):=by
 refine fn_of (base:=1184000) ok1184 rfl fun σ h0 hr=>?_
 have s0:σ.sl 0=tm t:=h0 0
 simp only [tm] at s0
 clear h0 hr
 unfold c1184
 simp [s0,-W_block]
 refine W_ads (s:=4) (K:=1184013) (ty:=63) (sz:=3) (bs:=40) (es:=[]) (by simp) ?_
 simp [s0,-W_block]
 rw [W_block]
 refine W_loop (fun m σ=>∃ u acc,u.count=m ∧ u.count + acc.length ≤ t.count ∧ T.split t=((T.split u).1,(T.split u).2 ++ acc.reverse) ∧ σ.sl 1=.c (.ref 1184001 (σ.tg 1184001) 0) ∧ σ.ob 1184001=some (.box 63 u.cells) ∧ σ.sl 2=.c (.ref 1184002 (σ.tg 1184002) 0) ∧ σ.ob 1184002=some (.box 63 [.v (.int .i64 0),.v (.int .i64 0),.cap 3 40 []]) ∧ σ.sl 4=.c (.own 1184013 (σ.tg 1184013)) ∧ accO acc (σ.ob 1184013)) t.count ?_ ?_
 ·exact ⟨t,[],rfl,by simp,by simp,by simp,by simp,by simp,by simp,by simp,.inl ⟨rfl,by simp⟩⟩
 clear s0 σ
 rintro m σ ⟨u,acc,hm,hlen,hsp,s1,o1,s2,o2,s4,o4⟩
 unfold c1184b0
 have ou:=o1
 rw [cells_eq] at o1
 simp [s1,o1,-W_block]
 refine ECall.fn (fn1194 u 6) (by simp [tm,ib,cells_eq]) (by simp) rfl fun hx=>?_
 clear hx
 cases h2:u.two 6 with
 | true=>
  obtain ⟨n,f,a,rfl⟩:=two_is h2
  simp only [cells_mk] at ou
  have hcu:(T.mk 6 n [f,a]).count=f.count + a.count + 1:=by simp [T.count,T.countL]
  have hca:0 < a.count:=by cases a;simp [T.count]
  have hnew:T.split t=((T.split f).1,(T.split f).2 ++ (acc ++ [a]).reverse):=by rw [hsp,split_app];simp
  rcases o4 with ⟨e1,o4⟩ | o4
  ·subst e1
   simp [bb,s1,ou,s4,o4]
   refine ⟨by rw [cells_eq];simp [room],by simp [room],?_⟩
   refine W_gh0 ?_
   simp [s1,ou,cells_eq f]
   exact ⟨f.count,by omega,f,rfl,[a],by simp;omega,by simpa using hnew,by simp [cells_eq f],by simp [s2],by simp [o2],.inr (by simp [trow])⟩
  ·simp only [trow] at o4
   simp [bb,s1,ou,s4,o4]
   refine ⟨by rw [cells_eq];simp [room],by simp [room];omega,?_⟩
   refine W_gh0 ?_
   simp [s1,ou,cells_eq f]
   exact ⟨f.count,by omega,f,rfl,acc ++ [a],by simp;omega,by simpa using hnew,by simp [cells_eq f],by simp [s2],by simp [o2],.inr (by simp [trow])⟩
 | false=>
  have hs:=split_no h2
  rw [hs] at hsp
  simp at hsp
  rw [hsp]
  rcases o4 with ⟨e1,o4⟩ | o4
  ·subst e1
   simp [bb,s4]
   refine ECall.fn fn1195n (by simp [toD2,toD1,toD,o4,tms]) (by simp) rfl fun hx=>?_
   simp
   refine W_gh0 ?_
   simp [s1,o1,s2,o2,s4,o4,r1184,tm,tms,cells_eq u]
  ·simp only [trow] at o4
   simp [bb,s4]
   refine ECall.one (args:=[.c (.own 1184013 (σ.tg 1184013))]) (sp1195 (σ.tg 1184013) acc (by omega)) (by simp [toD2,toD1,toD,o4]) (by simp) rfl rfl (by simp [o4,trow]) (by simp) fun hx=>?_
   simp
   refine W_fz (k:=1184013) (ty:=63) (sz:=3) (bs:=40) (es:=acc.reverse.map T.cells) (by simp [trow]) ?_
   simp [s1,o1,s2,o2,s4,o4,r1184,tm,tms,cells_eq u]
end Go.Abs
