/- Lemmas for the proof. No condition. -/
import Derived.Test.YthjgmldnegaaiaaGreatDoorQf14
import Derived.Shelf.Spec.SlicesInsertGrow
import Derived.Shelf.SlIterI.Nil
import Derived.Shelf.SlIter.Nil
import Derived.Shelf.SortM.Plain
import Derived.Shelf.SortM.SortNone
import Derived.Ground.GgzProg
import Derived.Ground.SlgmProg
import Derived.Test.YthjgmldnegaaiaaGreatDoorCards
import Derived.Deep.DeepHandedRow
set_option linter.unusedVariables false
set_option linter.unusedSimpArgs false
namespace Go.Proofs.YthjgmldnegaaiaaGreatDoor.Mir
open Go Go.RowKit
set_option maxHeartbeats 4000000
theorem y0c (l:List Im)(hl:l.length≤1000000):Con Tryz.prog 54 [.f (fIm l)] [] fun r H'=>r = .ag [D.int (a0i l).id,D.int (a0i l).ver]∧H'=[]:=by
 refine Con.walk good x0J (by simp) ?_
 unfold r0P
 simp only [a0I]
 have e1:((l.length:Int)-1).toNat=l.length-1:=by omega
 by_cases h:l.length=0
 ·rw [a0i,if_pos h]
  repeat' (with_reducible first|refine Wx.h ?_|refine Wb.h fun K hK=>?_|(refine hK _ ?_;clear hK K)|refine Wq.h ?_ ?_<;>intro h<;>try (exfalso;omega)|((fail_if_success refine Wz.h ?_);simp (disch:=omega) only [↓LD,LA,a0A,seval,LIm]))
  exact RetS.still (ds:=[.ag [jI,jI]]) (by kernel_rfl) (by kernel_rfl) (.ags (.cons .f (.cons .f .nil))) ⟨rfl,rfl⟩
 ·rw [a0i,if_neg h]
  have hk:l.length-1<l.length:=by omega
  repeat' (with_reducible first|refine Wx.h ?_|refine Wb.h fun K hK=>?_|(refine hK _ ?_;clear hK K)|refine Wq.h ?_ ?_<;>intro h<;>try (exfalso;omega)|((fail_if_success refine Wz.h ?_);first|simp (disch:=omega) only [↓LD,LA,a0A,seval,LIm,b0p,h0c,e1,Im.cs,List.map_cons,List.map_nil,-a0A]|(refine And.intro ?_ ?_;omega)|fail))
  generalize gt l (l.length-1)=x
  exact RetS.still (ds:=[.ag [D.int x.id,D.int x.ver]]) (by kernel_rfl) (by kernel_rfl) (.ags (.cons .f (.cons .f .nil))) ⟨rfl,rfl⟩
def cmpZ (a b:Int):Int:=if a<b then -1 else if b<a then 1 else 0
theorem z0F (a:Int):Con Tryz.prog 99 [D.int a] [] fun r H'=>r=D.bool false∧H'=[]:=by
 refine Con.walk good w0r (by simp) ?_
 unfold o0x
 simp only [a0I]
 repeat' (with_reducible first|refine Wx.h ?_|refine Wb.h fun K hK=>?_|(refine hK _ ?_;clear hK K)|((fail_if_success refine Wz.h ?_);simp (disch:=omega) only [↓LD,LA,a0A,seval]))
 exact end1 rfl rfl (by kernel_rfl) .f ⟨rfl,rfl⟩
theorem z0P (a b:Int):Con Tryz.prog 62 [D.int a,D.int b] [] fun r H'=>r=D.int (cmpZ a b)∧H'=[]:=by
 have h:=z0F
 refine Con.walk good x0S (by simp) ?_
 unfold q0Y
 simp only [a0I]
 repeat' (with_reducible first|refine Wx.h ?_|refine Wb.h fun K hK=>?_|(refine hK _ ?_;clear hK K)|((fail_if_success refine Wz.h ?_);simp (disch:=omega) only [↓LD,LA,a0A,seval]))
 refine a0C (h a) rfl rfl rfl ?_
 repeat' (with_reducible first|refine Wx.h ?_|refine Wb.h fun K hK=>?_|(refine hK _ ?_;clear hK K)|((fail_if_success refine Wz.h ?_);simp (disch:=omega) only [↓LD,LA,a0A,seval]))
 refine a0C (h b) rfl rfl rfl ?_
 repeat' (with_reducible first|refine Wx.h ?_|refine Wb.h fun K hK=>?_|(refine hK _ ?_;clear hK K)|refine Wq.h ?_ ?_<;>intro h|((fail_if_success refine Wz.h ?_);simp (disch:=omega) only [↓LD,LA,a0A,seval]))
 all_goals
  refine end1 rfl rfl (by kernel_rfl) .f ⟨congrArg (fun i:Int=>D.f (.v (.int .i64 i))) ?_,rfl⟩
  unfold cmpZ
  (repeat' split)<;>omega
def orL:List Int→Int
 | []=>0
 | x :: l=>if x≠0 then x else orL l
theorem z0m (l:List Int)(hl:l.length≤1000000):Con Tryz.prog 61 [.f (fI l)] [] fun r H'=>r=D.int (orL l)∧H'=[]:=by
 refine Con.walk good x0i (by simp) ?_
 unfold p0v
 simp only [a0I]
 repeat' (with_reducible first|refine Wx.h ?_|refine Wb.h fun K hK=>?_|(refine hK _ ?_;clear hK K)|((fail_if_success refine Wz.h ?_);simp (disch:=omega) only [↓LD,LA,a0A,seval,LSt]))
 refine HS.loopG [3,6,7,8] (fun i:Nat=>⟨frm 18 [(3,jI),(6,.f (fI l)),(7,D.int l.length),(8,D.int i)],[],[]⟩) (fun i=>i≤l.length∧orL l=orL (l.drop i)) (fun i=>l.length-i) 0 (by kernel_rfl) ⟨Nat.zero_le _,rfl⟩ ?_
 rintro i ⟨hi,hF⟩
 by_cases hil:i<l.length
 ·rw [a0G hil,orL] at hF
  by_cases h0:gt l i=0
  ·rw [if_neg (by omega)] at hF
   repeat' (with_reducible first|refine Wx.h ?_|refine Wb.h fun K hK=>?_|(refine hK _ ?_;clear hK K)|(refine wT ?_ ?_;assumption)|refine Wq.h ?_ ?_<;>intro h<;>try (exfalso;omega)|((fail_if_success refine Wz.h ?_);first|simp (disch:=omega) only [↓LD,LA,a0A,seval,LSt]|(refine And.intro ?_ ?_;omega)|fail))
   exact Next.mk (i+1) (by kernel_rfl) ⟨by omega,hF⟩ (by omega)
  ·rw [if_pos h0] at hF
   repeat' (with_reducible first|refine Wx.h ?_|refine Wb.h fun K hK=>?_|(refine hK _ ?_;clear hK K)|(refine wF ?_ ?_;assumption)|refine Wq.h ?_ ?_<;>intro h<;>try (exfalso;omega)|((fail_if_success refine Wz.h ?_);first|simp (disch:=omega) only [↓LD,LA,a0A,seval,LSt]|(refine And.intro ?_ ?_;omega)|fail))
   rw [hF]
   exact end1 rfl rfl (by kernel_rfl) .f ⟨rfl,rfl⟩
 ·rw [List.drop_of_length_le (by omega)] at hF
  repeat' (with_reducible first|refine Wx.h ?_|refine Wb.h fun K hK=>?_|(refine hK _ ?_;clear hK K)|refine Wq.h ?_ ?_<;>intro h<;>try (exfalso;omega)|((fail_if_success refine Wz.h ?_);simp (disch:=omega) only [↓LD,LA,a0A,seval,LSt]))
  rw [hF]
  exact end1 rfl rfl (by kernel_rfl) .f ⟨rfl,rfl⟩
instance {l:List Ev}{H:List Row}{K:D→List Row→Prop}[hl:Kn (IdL l)]:Wa (a0P Tryz.prog (.fn 22 []) [.f (fEv l)] H K) (K (.f (fIm (ofL l))) H):=⟨fun h=>a0C (x0p l hl.h) rfl rfl rfl h⟩
instance {l:List Im}{H:List Row}{K:D→List Row→Prop}[hl:Kn (l.length≤1000000)]:Wa (a0P Tryz.prog (.fn 54 []) [.f (fIm l)] H K) (K (.ag [.f (.v (.int .i64 (a0i l).id)),.f (.v (.int .i64 (a0i l).ver))]) H):=⟨fun h=>a0C (y0c l hl.h) rfl rfl rfl h⟩
instance {l:List Ev}{H:List Row}{K:Bool→D→List Row→Prop}[hl:Kn (IdL l)]:Wa (a0k Tryz.prog (.fn 22 []) [.f (fEv l)] H K) (K true (.f (fIm (ofL l))) H):=⟨fun h=>a0M (x0p l hl.h) rfl rfl rfl h⟩
instance {a b:Int}{H:List Row}{K:Bool→D→List Row→Prop}:Wa (a0k Tryz.prog (.fn 62 []) [.f (.v (.int .i64 a)),.f (.v (.int .i64 b))] H K) (K true (.f (.v (.int .i64 (cmpZ a b)))) H):=⟨fun h=>a0M (z0P a b) rfl rfl rfl h⟩
set_option maxRecDepth 100000 in
theorem r0G (a b:List Im)(ha:a.length≤1000000)(hb:b.length≤1000000):Con Tryz.prog 26 [.f (fIm a),.f (fIm b)] [] fun r H'=>r=D.int (cmpI a b)∧H'=[]:=by
 haveI:Kn (a.length≤1000000):=⟨ha⟩
 haveI:Kn (b.length≤1000000):=⟨hb⟩
 have hc:cmpI a b=orL [cmpZ (a0i a).ver (a0i b).ver,cmpZ (a0i a).id (a0i b).id]:=by
  unfold cmpI orL orL orL cmpZ
  (repeat' split)<;>omega
 refine Con.walk good n0w (by simp) ?_
 unfold g0i
 simp only [a0I]
 repeat' (with_reducible first|refine Wx.h ?_|refine We.h fun K hK=>?_|(refine hK _ _ _ _ ?_;clear hK K;try clear hM M)|refine Wb.h fun K hK=>?_|(refine hK _ ?_;clear hK K)|(refine Wy.h ?_ ?_;kernel_rfl)|((fail_if_success refine Wz.h ?_);simp (disch:=omega) only [↓LD,LA,a0A,seval]))
 all_goals
  refine c0l (args0:=[.f (fI [cmpZ (a0i a).ver (a0i b).ver,cmpZ (a0i a).id (a0i b).id])]) (z0m _ (by simp)) (.cons (.sl (T:=3) (xs:=[iF (cmpZ (a0i a).ver (a0i b).ver),iF (cmpZ (a0i a).id (a0i b).id)]) rfl (fun e=>absurd e (by decide))) .nil) ⟨.f .v,by simp⟩ ?_
  rw [←hc]
  repeat' (with_reducible first|refine Wx.h ?_|refine We.h fun K hK=>?_|(refine hK _ _ _ _ ?_;clear hK K;try clear hM M)|(refine hK _ ?_;clear hK K)|(refine Wy.h ?_ ?_;kernel_rfl)|((fail_if_success refine Wz.h ?_);simp (disch:=omega) only [↓LD,LA,a0A,seval]))
  exact end1 rfl rfl (by kernel_rfl) .f ⟨rfl,rfl⟩
instance {a b:List Im}{H:List Row}{K:D→List Row→Prop}[ha:Kn (a.length≤1000000)][hb:Kn (b.length≤1000000)]:Wa (a0P Tryz.prog (.fn 26 []) [.f (fIm a),.f (fIm b)] H K) (K (.f (.v (.int .i64 (cmpI a b)))) H):=⟨fun h=>a0C (r0G a b ha.h hb.h) rfl rfl rfl h⟩
def q0t:SCode :=
  (jq ([.a 2 (.box 73 (.t 0)),.a 3 (.box 73 (.t 1)),.a 4 (.mv kF)]) (jq ((ap [jo 5 0 2,jl 6 5,jo 7 0 3,jl 8 7,jB 9 .eql 6 8] (ap [jm 10 9,gO 11 1
 2 10 true] (ap [gL 12 11 10 true,gO 13 1 3 10 true,gL 14 13 10 true,jG 15 (.bin .eql (.t 12) (.t 14)) 10 true] (ap [.a 16 (.pick (.t 10) (.t 15)
 kF),jm 17 16,gO 18 2 2 17 true] (ap [gL 19 18 17 true,gO 20 2 3 17 true,gL 21 20 17 true,jG 22 (.bin .eql (.t 19) (.t 21)) 17 true] (ap [.a 23
 (.pick (.t 17) (.t 22) kF),jm 24 23,gO 25 3 2 24 true] (ap [gL 26 25 24 true,gO 27 3 3 24 true,gL 28 27 24 true,jG 29 (.bin .eql (.t 26) (.t 28))
 24 true] (ap [.a 30 (.pick (.t 24) (.t 29) kF),jm 31 30,gO 32 4 2 31 true] (ap [gL 33 32 31 true,gO 34 4 3 31 true,gL 35 34 31 true,jG 36 (.bin
 .eql (.t 33) (.t 35)) 31 true] (ap [.a 37 (.pick (.t 31) (.t 36) kF),jm 38 37,gO 39 5 2 38 true] (ap [gL 40 39 38 true,gO 41 5 3 38 true,gL 42 41
 38 true,jG 43 (.bin .eql (.t 40) (.t 42)) 38 true] (ap [.a 44 (.pick (.t 38) (.t 43) kF),jm 45 44,gO 46 6 2 45 true] (ap [gL 47 46 45 true,gO 48 6
 3 45 true,gL 49 48 45 true,jG 50 (.bin .eql (.t 47) (.t 49)) 45 true] (ap [.a 51 (.pick (.t 45) (.t 50) kF),jm 52 51,gO 53 7 2 52 true] (ap [gL 54
 53 52 true,gO 55 7 3 52 true,gL 56 55 52 true,jG 57 (.call (kC 124) [(.t 54),(.t 56)]) 52 true] (ap [.a 58 (.pick (.t 52) (.t 57) kF),jm 59 58,gO
 60 8 2 59 true] (ap [gL 61 60 59 true,gO 62 8 3 59 true,gL 63 62 59 true,jG 64 (.call (kC 125) [(.t 61),(.t 63),(kC 126)]) 59 true] [.a 65 (.pick
 (.t 59) (.t 64) kF),jm 4 65])))))))))))))))))) .ret))
theorem w0l:Fn Tryz.prog 77 66 [.t 4] q0t:=.of Tryz.func77 (by kernel_rfl)
def e0e:SCode :=
  (jq ([.a 6 (.mv kF)]) (.seq (jq ([jm 10 0,je 11 10,jm 12 1,je 13 12,jB 14 .neq 11 13]) (jc 14 (jq ([.a 6 (.mv kF)]) .ret) .skip)) (.seq (jq ([jm 15
 0,je 16 15,jk 17 0]) (.block 0 (.loop (jq ([jB 18 .lss 17 16]) (.seq (jc 18 .skip (.exit 0)) (.seq (.block 1 (jq ([jm 19 17,jx 20 3 15 17,jL 21 3
 20,.a 8 (.alloc 123 [jN,jI,jI]),jm 7 19,.n (.store 3 (.t 8) (.t 21))]) (jq ([jm 22 1,jm 23 7,jx 24 3 22 23,jL 25 3 24,.a 9 (.alloc 123 [jN,
 jI,jI]),.n (.store 3 (.t 9) (.t 25))]) (jq ((ap [jm 26 2,jL 27 3 8,jL 28 3 9,.a 29 (.call (.t 26) [(.t 27),(.t 28)])] [.a 30 (.unot (.t 29))]))
 (jc 30 (jq ([.a 6 (.mv kF)]) .ret) .skip))))) (.ops [jb 31 .add 17 1,jm 17 31]))))))) (jq ([.a 6 (.mv kT)]) .ret))))
theorem j0I:Fn Tryz.prog 125 32 [.t 6] e0e:=.of Tryz.func125 (by kernel_rfl)
def h0I:SCode :=
  (jq ([.a 2 (.box 123 (.t 0)),.a 3 (.box 123 (.t 1)),.a 4 (.mv kF)]) (jq ((ap [jo 5 0 2,jl 6 5,jo 7 0 3,jl 8 7,.a 9 (.call (kC 154) [(.t 6),(.t
 8)])] (ap [jm 10 9,gO 11 1 2 10 true] (ap [gL 12 11 10 true,gO 13 1 3 10 true,gL 14 13 10 true,jG 15 (.bin .eql (.t 12) (.t 14)) 10 true] (ap [.a
 16 (.pick (.t 10) (.t 15) kF),jm 17 16,gO 18 2 2 17 true] (ap [gL 19 18 17 true,gO 20 2 3 17 true,gL 21 20 17 true,jG 22 (.bin .eql (.t 19) (.t
 21)) 17 true] [.a 23 (.pick (.t 17) (.t 22) kF),jm 4 23])))))) .ret))
theorem n0y:Fn Tryz.prog 126 24 [.t 4] h0I:=.of Tryz.func126 (by kernel_rfl)
def i0K:SCode :=
  (jq ([.a 4 (.mv kF)]) (.seq (jq ([jm 6 0,je 7 6,jm 8 1,je 9 8,jB 10 .neq 7 9]) (jc 10 (jq ([.a 4 (.mv kF)]) .ret) .skip)) (.seq (jq ([jm 11 0,je
 12 11,jk 13 0]) (.block 0 (.loop (jq ([jB 14 .lss 13 12]) (.seq (jc 14 .skip (.exit 0)) (.seq (.block 1 (jq ([jm 15 13,jm 5 15]) (.seq (.drw [jm 16
 0,jm 17 5,jx 18 1 16 17,jl 19 18,jm 20 1,jm 21 5,jx 22 1 20 21,jl 23 22,jB 24 .neq 19 23] [0,0,3,7,0,0,48,112,255]) (jc 24 (jq ([.a 4
 (.mv kF)]) .ret) .skip)))) (.ops [jb 25 .add 13 1,jm 13 25]))))))) (jq ([.a 4 (.mv kT)]) .ret))))
theorem r0L:Fn Tryz.prog 154 26 [.t 4] i0K:=.of Tryz.func154 (by kernel_rfl)
theorem s0G (l m:List Int)(hl:l.length≤1000000)(hm:m.length≤1000000):Con Tryz.prog 154 [.f (fI l),.f (fI m)] [] fun r H'=>r=D.bool (eqB l m)∧H'=[]:=by
 refine Con.walk good r0L (by simp) ?_
 unfold i0K
 simp only [a0I]
 by_cases hlm:(l.length:Int)=m.length
 rotate_left
 ·repeat' (with_reducible first|refine Wx.h ?_|refine Wb.h fun K hK=>?_|(refine hK _ ?_;clear hK K)|(refine wF ?_ ?_;assumption)|((fail_if_success refine Wz.h ?_);simp (disch:=omega) only [↓LD,LA,a0A,seval,LSt]))
  rw [f0D hlm]
  exact end1 rfl rfl (by kernel_rfl) .f ⟨rfl,rfl⟩
 repeat' (with_reducible first|refine Wx.h ?_|refine Wb.h fun K hK=>?_|(refine hK _ ?_;clear hK K)|(refine wT ?_ ?_;assumption)|((fail_if_success refine Wz.h ?_);simp (disch:=omega) only [↓LD,LA,a0A,seval,LSt]))
 refine HS.loopG [0,1,12,13] (fun i:Nat=>⟨frm 26 [(0,.f (fI l)),(1,.f (fI m)),(12,D.int l.length),(13,D.int i)],[],[]⟩) (fun i=>i≤l.length∧l.take i=m.take i) (fun i=>l.length-i) 0 (by kernel_rfl) ⟨Nat.zero_le _,rfl⟩ ?_
 rintro i ⟨hi,ht⟩
 by_cases hil:i<l.length
 ·by_cases e:gt l i=gt m i
  ·repeat' (with_reducible first|refine Wx.h ?_|refine We.h fun K hK=>?_|(refine hK _ _ _ _ ?_;clear hK K;try clear hM M)|refine Wb.h fun K hK=>?_|(refine hK _ ?_;clear hK K)|(refine wT ?_ ?_;assumption)|(refine Wy.h ?_ ?_;kernel_rfl)|refine Wq.h ?_ ?_<;>intro h<;>try (exfalso;omega)|((fail_if_success refine Wz.h ?_);first|simp (disch:=omega) only [↓LD,LA,a0A,seval,LSt]|(refine And.intro ?_ ?_;omega)|fail))
   exact Next.mk (i+1) (by kernel_rfl) ⟨by omega,c0f hlm hil ht e⟩ (by omega)
  ·repeat' (with_reducible first|refine Wx.h ?_|refine We.h fun K hK=>?_|(refine hK _ _ _ _ ?_;clear hK K;try clear hM M)|refine Wb.h fun K hK=>?_|(refine hK _ ?_;clear hK K)|(refine wF ?_ ?_;assumption)|(refine Wy.h ?_ ?_;kernel_rfl)|refine Wq.h ?_ ?_<;>intro h<;>try (exfalso;omega)|((fail_if_success refine Wz.h ?_);first|simp (disch:=omega) only [↓LD,LA,a0A,seval,LSt]|(refine And.intro ?_ ?_;omega)|fail))
   rw [i0q e]
   exact end1 rfl rfl (by kernel_rfl) .f ⟨rfl,rfl⟩
 ·repeat' (with_reducible first|refine Wx.h ?_|refine Wb.h fun K hK=>?_|(refine hK _ ?_;clear hK K)|refine Wq.h ?_ ?_<;>intro h<;>try (exfalso;omega)|((fail_if_success refine Wz.h ?_);simp (disch:=omega) only [↓LD,LA,a0A,seval,LSt]))
  rw [e0r hlm ht (by omega)]
  exact end1 rfl rfl (by kernel_rfl) .f ⟨rfl,rfl⟩
instance {a b:List Int}{H:List Row}{K:D→List Row→Prop}[ha:Kn (a.length≤1000000)][hb:Kn (b.length≤1000000)]:Wa (a0P Tryz.prog (.fn 154 []) [.f (fI a),.f (fI b)] H K) (K (.f (.v (.bool (eqB a b)))) H):=⟨fun h=>a0C (s0G a b ha.h hb.h) rfl rfl rfl h⟩
theorem z0V (x y:Nd)(hx:x.ns.length≤1000000)(hy:y.ns.length≤1000000):Con Tryz.prog 126 [.ag (x.cs.map .f),.ag (y.cs.map .f)] [] fun r H'=>r=D.bool (eqB x y)∧H'=[]:=by
 obtain ⟨a1,a2,a3⟩:=x
 obtain ⟨b1,b2,b3⟩:=y
 dsimp only at hx hy
 haveI:Kn (a1.length≤1000000):=⟨hx⟩
 haveI:Kn (b1.length≤1000000):=⟨hy⟩
 refine Con.walk good n0y (by simp) ?_
 unfold h0I
 simp only [a0I]
 by_cases e4:a1=b1
 ·have hb:=f0p e4
  repeat' (with_reducible first|refine Wx.h ?_|refine Wb.h fun K hK=>?_|(refine hK _ ?_;clear hK K)|refine Wq.h ?_ ?_<;>intro h|((fail_if_success refine Wz.h ?_);simp (disch:=omega) only [↓LD,LA,a0A,seval,Nd.cs,hb]))
  ·rw [f0p (by subst_vars;rfl)];exact end1 rfl rfl (by kernel_rfl) .f ⟨rfl,rfl⟩
  all_goals
   rw [d0v (by intro e;cases e;contradiction)];exact end1 rfl rfl (by kernel_rfl) .f ⟨rfl,rfl⟩
 ·have hb:=d0v e4
  repeat' (with_reducible first|refine Wx.h ?_|refine Wb.h fun K hK=>?_|(refine hK _ ?_;clear hK K)|((fail_if_success refine Wz.h ?_);simp (disch:=omega) only [↓LD,LA,a0A,seval,Nd.cs,hb]))
  all_goals rw [d0v (fun e=>e4 (by cases e;rfl))];exact end1 rfl rfl (by kernel_rfl) .f ⟨rfl,rfl⟩
theorem k0Q (l m:List Nd)(g:FuncId)(hl:l.length≤1000000)(hm:m.length≤1000000)
  (hf:∀ x∈l,∀ y∈m,Con Tryz.prog g [.ag (x.cs.map .f),.ag (y.cs.map .f)] [] fun r H'=>r=D.bool (eqB x y)∧H'=[]) :
  Con Tryz.prog 125 [.f (fG l),.f (fG m),.fn g []] [] fun r H'=>r=D.bool (eqB l m)∧H'=[]:=by
 refine Con.walk good j0I (by simp) ?_
 unfold e0e
 simp only [a0I]
 by_cases hlm:(l.length:Int)=m.length
 rotate_left
 ·repeat' (with_reducible first|refine Wx.h ?_|refine Wb.h fun K hK=>?_|(refine hK _ ?_;clear hK K)|(refine wF ?_ ?_;assumption)|((fail_if_success refine Wz.h ?_);simp (disch:=omega) only [↓LD,LA,a0A,seval,LSt]))
  rw [f0D hlm]
  exact end1 rfl rfl (by kernel_rfl) .f ⟨rfl,rfl⟩
 repeat' (with_reducible first|refine Wx.h ?_|refine Wb.h fun K hK=>?_|(refine hK _ ?_;clear hK K)|(refine wT ?_ ?_;assumption)|((fail_if_success refine Wz.h ?_);simp (disch:=omega) only [↓LD,LA,a0A,seval,LSt]))
 refine HS.loopG [1,2,15,16,17] (fun i:Nat=>⟨frm 32 [(1,.f (fG m)),(2,.fn g []),(15,.f (fG l)),(16,D.int l.length),(17,D.int i)],[],[]⟩) (fun i=>i≤l.length∧l.take i=m.take i) (fun i=>l.length-i) 0 (by kernel_rfl) ⟨Nat.zero_le _,rfl⟩ ?_
 rintro i ⟨hi,ht⟩
 by_cases hil:i<l.length
 ·repeat' (with_reducible first|refine Wx.h ?_|refine Wb.h fun K hK=>?_|(refine hK _ ?_;clear hK K)|refine Wq.h ?_ ?_<;>intro h<;>try (exfalso;omega)|((fail_if_success refine Wz.h ?_);first|simp (disch:=omega) only [↓LD,LA,a0A,seval,LSt,c1G,s0M,Nd.cs,-a0A]|(refine And.intro ?_ ?_;omega)|fail))
  refine a0C (hf _ (a0K hil) _ (a0K (l:=m) (k:=i) (by omega))) rfl rfl rfl ?_
  by_cases e:gt l i=gt m i
  ·rw [f0p e]
   repeat' (with_reducible first|refine Wx.h ?_|refine Wb.h fun K hK=>?_|(refine hK _ ?_;clear hK K)|((fail_if_success refine Wz.h ?_);simp (disch:=omega) only [↓LD,LA,a0A,seval,LSt]))
   exact Next.mk (i+1) (by kernel_rfl) ⟨by omega,c0f hlm hil ht e⟩ (by omega)
  ·rw [d0v e]
   repeat' (with_reducible first|refine Wx.h ?_|refine Wb.h fun K hK=>?_|(refine hK _ ?_;clear hK K)|((fail_if_success refine Wz.h ?_);simp (disch:=omega) only [↓LD,LA,a0A,seval,LSt]))
   rw [i0q e]
   exact end1 rfl rfl (by kernel_rfl) .f ⟨rfl,rfl⟩
 ·repeat' (with_reducible first|refine Wx.h ?_|refine Wb.h fun K hK=>?_|(refine hK _ ?_;clear hK K)|refine Wq.h ?_ ?_<;>intro h<;>try (exfalso;omega)|((fail_if_success refine Wz.h ?_);simp (disch:=omega) only [↓LD,LA,a0A,seval,LSt]))
  rw [e0r hlm ht (by omega)]
  exact end1 rfl rfl (by kernel_rfl) .f ⟨rfl,rfl⟩
instance {a b:List Nd}{H:List Row}{K:D→List Row→Prop}[ha:Kn (k0F a)][hb:Kn (k0F b)]:Wa (a0P Tryz.prog (.fn 125 []) [.f (fG a),.f (fG b),.fn 126 []] H K) (K (.f (.v (.bool (eqB a b)))) H):=⟨fun h=>a0C (k0Q a b _ ha.h.1 hb.h.1 fun x hx y hy=>z0V x y (ha.h.2 x hx) (hb.h.2 y hy)) rfl rfl rfl h⟩
def l0P:SCode :=
  (jq ([.a 4 (.mv kF)]) (.seq (jq ([jm 6 0,je 7 6,jm 8 1,je 9 8,jB 10 .neq 7 9]) (jc 10 (jq ([.a 4 (.mv kF)]) .ret) .skip)) (.seq (jq ([jm 11 0,je
 12 11,jk 13 0]) (.block 0 (.loop (jq ([jB 14 .lss 13 12]) (.seq (jc 14 .skip (.exit 0)) (.seq (.block 1 (jq ([jm 15 13,jm 5 15]) (.seq (.drw [jm 16
 0,jm 17 5,jx 18 1 16 17,jl 19 18,jm 20 1,jm 21 5,jx 22 1 20 21,jl 23 22,jB 24 .neq 19 23] [0,0,3,7,0,0,48,112,255]) (jc 24 (jq ([.a 4
 (.mv kF)]) .ret) .skip)))) (.ops [jb 25 .add 13 1,jm 13 25]))))))) (jq ([.a 4 (.mv kT)]) .ret))))
theorem s0Y:Fn Tryz.prog 124 26 [.t 4] l0P:=.of Tryz.func124 (by kernel_rfl)
def h0x:SCode :=
  (jq ([jk 4 0]) (jq ([jk 5 0]) (.seq (.block 0 (.loop (.seq (.seq (.drw [jm 6 5,jm 7 0,je 8 7,jm 9 1,je 10 9,.a 11 (.mm false (.t 8) (.t 10)),jB
 12 .lss 6 11,jm 13 12,gM 14 0 13 true,gM 15 5 13 true,jG 16 (.idx 9 (.t 14) (.t 15)) 13 true,jG 17 (.loadA 9 (.t 16)) 13 true,gM 18 1 13 true,gM
 19 5 13 true,jG 20 (.idx 9 (.t 18) (.t 19)) 13 true,jG 21 (.loadA 9 (.t 20)) 13 true,jG 22 (.call (kC 77) [(.t 17),(.t 21)]) 13 true,.a 23 (.pick
 (.t 13) (.t 22) kF)] [0,0,2,0,8,30,63,127,255,255,1023,2047,255,255,12543,28927,65535,131071]) (jc 23 .skip (.exit 0))) (.block 1
 (.ops [jm 24 5,jb 25 .add 24 1,jm 5 25]))))) (jq ([jm 26 5,jm 4 26]) .ret))))
theorem p0f:Fn Tryz.prog 45 27 [.t 4] h0x:=.of Tryz.func45 (by kernel_rfl)
def g0a:SCode :=
 (jq ([jk 2 0]) (jq ((ap [jm 3 0,.a 4 (.call (kC 22) [(.t 3)])] (ap [.a 5 (.call (kC 54) [(.t 4)])] [.a 6 (.fld1 1 (.t 5)),jm 2 6]))) .ret))
theorem n0f:Fn Tryz.prog 78 7 [.t 2] g0a:=.of Tryz.func78 (by kernel_rfl)
def j0T:SCode :=
  (jq ([.a 2 (.box 30 (.t 0)),.a 4 (.mv kN),.a 5 (.mv kF)]) (jq ((ap [jm 9 1,.a 10 (.call (kC 54) [(.t 9)])] [.a 11 (.fld1 0 (.t 10)),jm 6 11]))
 (.seq (jq ([jm 12 1,je 13 12,jb 14 .eql 13 0]) (jc 14 (jq ([.a 4 (.mv kN),.a 5 (.mv kT)]) .ret) .skip)) (.seq (jq ([jo 15 0 2,jl 16 15,je 17 16,
 jk 18 0]) (.block 0 (.loop (jq ([jB 19 .lss 18 17]) (.seq (jc 19 .skip (.exit 0)) (.seq (.block 1 (jq ([jx 20 1 16 18,jl 21 20,jm 8 21]) (jq ((ap [jm
 22 6,jb 23 .geq 22 1] (ap [jm 24 23,gM 25 6 24 true] (ap [gM 26 8 24 true,jG 27 (.slen (.t 26)) 24 true,jG 28 (.bin .leq (.t 25) (.t 27)) 24 true]
 (ap [.a 29 (.pick (.t 24) (.t 28) kF),jm 30 29,gM 31 8 30 true] (ap [gM 32 6 30 true,jG 33 (.sub 9 73 (.t 31) none (some (.t 32)) none) 30 true,jG
 34 (.call (kC 22) [(.t 33)]) 30 true] (ap [gM 35 1 30 true,jG 36 (.call (kC 55) [(.t 34),(.t 35)]) 30 true] [.a 37 (.pick (.t 30) (.t 36) kF)])))))))
 (jc 37 (jq ((ap [jm 38 8,jm 39 6,.a 40 (.sub 9 73 (.t 38) none (some (.t 39)) none),.a 41 (.call (kC 51) [(.t 40)])] [jm 4 41,.a 5 (.mv kT)]))
 .ret) .skip)))) (.ops [jb 42 .add 18 1,jm 18 42]))))))) (jq ([.a 4 (.mv kN),.a 5 (.mv kF)]) .ret)))))
theorem m0Z:Fn Tryz.prog 21 43 [.t 4,.t 5] j0T:=.of Tryz.func21 (by kernel_rfl)
def l0b:SCode :=
  (jq ([.a 4 (.mv kF)]) (jq ((ap [jm 8 0,.a 9 (.call (kC 22) [(.t 8)])] (ap [jm 10 1,.a 11 (.call (kC 22) [(.t 10)])] [jm 5 9,jm 6 11]))) (jq ((ap [jm
 12 5,jm 13 6,.a 14 (.call (kC 88) [(.t 12),(.t 13)])] [.a 15 (.fld1 0 (.t 14)),jm 7 15])) (jq ((ap [jm 16 7,jm 17 0,je 18 17,jB 19 .lss 16 18]
 (ap [jm 20 19,gM 21 7 20 true] (ap [gM 22 1 20 true,jG 23 (.slen (.t 22)) 20 true,jG 24 (.bin .lss (.t 21) (.t 23)) 20 true] (ap [.a 25 (.pick (.t
 20) (.t 24) kF),jm 26 25,gM 27 0 26 true] (ap [gM 28 1 26 true,jG 29 (.call (kC 45) [(.t 27),(.t 28)]) 26 true] (ap [gM 30 7 26 true,jG 31 (.bin
 .geq (.t 29) (.t 30)) 26 true] (ap [.a 32 (.pick (.t 26) (.t 31) kF),jm 33 32,gM 34 5 33 true] (ap [gM 35 6 33 true,jG 36 (.call (kC 26) [(.t 34),
 (.t 35)]) 33 true] (ap [jG 37 (.bin .gtr (.t 36) (kI 0)) 33 true] (ap [.a 38 (.pick (.t 33) (.t 37) kF),jm 39 38,gM 40 0 39 true] (ap [jG 41 (.call
 (kC 78) [(.t 40)]) 39 true] (ap [gM 42 1 39 true,jG 43 (.call (kC 78) [(.t 42)]) 39 true] (ap [jG 44 (.bin .neq (.t 41) (.t 43)) 39 true] [.a 45
 (.pick (.t 39) (.t 44) kF),jm 4 45])))))))))))))) .ret))))
theorem s0U:Fn Tryz.prog 53 46 [.t 4] l0b:=.of Tryz.func53 (by kernel_rfl)
def m0o:SCode :=
  (jq ([.a 1 (.box 30 (.t 0)),.a 2 (.mv kF)]) (.seq (jq ([jo 9 0 1,jl 10 9,je 11 10,jb 12 .gtr 11 8]) (jc 12 (jq ([.a 2 (.mv kF)]) .ret) .skip))
 (.seq (jq ([jo 13 0 1,jl 14 13,je 15 14,jk 16 0]) (.block 0 (.loop (jq ([jB 17 .lss 16 15]) (.seq (jc 17 .skip (.exit 0)) (.seq (.block 1 (jq ([jm
 18 16,jx 19 1 14 16,jl 20 19,jm 3 18,jm 4 20]) (.seq (jq ((ap [jm 22 4,.a 23 (.call (kC 24) [(.t 22)])] [jm 21 23,jE 24 0 21,jE 25 1 21,.a 5
 (.alloc 65 [jI,jI,jI,jI,jF,jN,jN,jN,jN]),.n (.store 9 (.t 5) (.t 24)),jm 6 25])) (jq ((ap [jm 26 6,jb 27 .neq 26 0] (ap [jm 28 27,gM 29 4
 28 false] (ap [jG 30 (.slen (.t 29)) 28 false,jG 31 (.bin .eql (.t 30) (kI 0)) 28 false] [.a 32 (.pick (.t 28) kT (.t 31))])))) (jc 32 (jq ([.a 2 (.mv
 kF)]) .ret) .skip))) (jq ([jo 33 0 1,jl 34 33,jm 35 3,.a 36 (.sub 1 25 (.t 34) none (some (.t 35)) none),je 37 36,jk 38 0]) (.block 2 (.loop (jq
 ([jB 39 .lss 38 37]) (.seq (jc 39 .skip (.exit 2)) (.seq (.block 3 (jq ([jx 40 1 36 38,jl 41 40,jm 8 41]) (jq ((ap [jm 42 8,jm 43 4,.a 44 (.call
 (kC 53) [(.t 42),(.t 43)])] [.a 45 (.unot (.t 44))])) (jc 45 (jq ([.a 2 (.mv kF)]) .ret) .skip)))) (.ops [jb 46 .add 38 1,jm 38 46])))))))))) (.ops
 [jb 47 .add 16 1,jm 16 47]))))))) (jq ([.a 2 (.mv kT)]) .ret))))
theorem s0X:Fn Tryz.prog 20 48 [.t 2] m0o:=.of Tryz.func20 (by kernel_rfl)
def q0u:SCode :=
  (jq ([.a 4 (.mv kF)]) (.seq (jq ([jm 6 0,je 7 6,jm 8 1,je 9 8,jB 10 .neq 7 9]) (jc 10 (jq ([.a 4 (.mv kF)]) .ret) .skip)) (.seq (jq ([jm 11 0,je
 12 11,jk 13 0]) (.block 0 (.loop (jq ([jB 14 .lss 13 12]) (.seq (jc 14 .skip (.exit 0)) (.seq (.block 1 (jq ([jm 15 13,jm 5 15]) (.seq (.drw [jm 16
 0,jm 17 5,jx 18 2 16 17,jL 19 2 18,jm 20 1,jm 21 5,jx 22 2 20 21,jL 23 2 22,.a 24 (.aeq false [0,0] (.t 19) (.t 23))] [0,0,3,7,0,0,48,
 112,255]) (jc 24 (jq ([.a 4 (.mv kF)]) .ret) .skip)))) (.ops [jb 25 .add 13 1,jm 13 25]))))))) (jq ([.a 4 (.mv kT)]) .ret))))
theorem w0m:Fn Tryz.prog 55 26 [.t 4] q0u:=.of Tryz.func55 (by kernel_rfl)
set_option maxRecDepth 100000 in
theorem c1h (a b:Bs)(ha:a.length≤1000000):Con Tryz.prog 124 [.f (fY a),.f (fY b)] [] fun r H'=>r=D.bool (eqB a b)∧H'=[]:=by
 refine Con.walk good s0Y (by simp) ?_
 unfold l0P
 simp only [a0I]
 by_cases hlm:(a.length:Int)=b.length
 rotate_left
 ·repeat' (with_reducible first|refine Wx.h ?_|refine Wb.h fun K hK=>?_|(refine hK _ ?_;clear hK K)|(refine wF ?_ ?_;assumption)|((fail_if_success refine Wz.h ?_);simp (disch:=omega) only [↓LD,LA,a0A,seval]))
  rw [f0D hlm]
  exact end1 rfl rfl (by kernel_rfl) .f ⟨rfl,rfl⟩
 repeat' (with_reducible first|refine Wx.h ?_|refine Wb.h fun K hK=>?_|(refine hK _ ?_;clear hK K)|(refine wT ?_ ?_;assumption)|((fail_if_success refine Wz.h ?_);simp (disch:=omega) only [↓LD,LA,a0A,seval]))
 refine HS.loopG [0,1,12,13] (fun i:Nat=>⟨frm 26 [(0,.f (fY a)),(1,.f (fY b)),(12,D.int a.length),(13,D.int i)],[],[]⟩) (fun i=>i≤a.length∧a.take i=b.take i) (fun i=>a.length-i) 0 (by kernel_rfl) ⟨Nat.zero_le _,rfl⟩ ?_
 rintro i ⟨hi,ht⟩
 by_cases hil:i<a.length
 ·have hil2:i<b.length:=by omega
  by_cases e:gt a i=gt b i
  ·repeat' (with_reducible first|refine Wx.h ?_|refine We.h fun K hK=>?_|(refine hK _ _ _ _ ?_;clear hK K;try clear hM M)|refine Wb.h fun K hK=>?_|(refine hK _ ?_;clear hK K)|(refine Wy.h ?_ ?_;kernel_rfl)|refine Wq.h ?_ ?_<;>intro h<;>try (exfalso;omega)|((fail_if_success refine Wz.h ?_);first|simp (disch:=omega) only [↓LD,LA,a0A,seval,e]|(refine And.intro ?_ ?_;omega)|fail))
   exact Next.mk (i+1) (by kernel_rfl) ⟨by omega,c0f hlm hil ht e⟩ (by omega)
  ·have e2:¬ ((gt a i).toNat:Int)=((gt b i).toNat:Int):=fun h=>e (UInt8.toNat_inj.1 (by omega))
   repeat' (with_reducible first|refine Wx.h ?_|refine We.h fun K hK=>?_|(refine hK _ _ _ _ ?_;clear hK K;try clear hM M)|refine Wb.h fun K hK=>?_|(refine hK _ ?_;clear hK K)|(refine wF ?_ ?_;assumption)|(refine Wy.h ?_ ?_;kernel_rfl)|refine Wq.h ?_ ?_<;>intro h<;>try (exfalso;omega)|((fail_if_success refine Wz.h ?_);first|simp (disch:=omega) only [↓LD,LA,a0A,seval]|(refine And.intro ?_ ?_;omega)|fail))
   rw [i0q e]
   exact end1 rfl rfl (by kernel_rfl) .f ⟨rfl,rfl⟩
 ·repeat' (with_reducible first|refine Wx.h ?_|refine Wb.h fun K hK=>?_|(refine hK _ ?_;clear hK K)|refine Wq.h ?_ ?_<;>intro h<;>try (exfalso;omega)|((fail_if_success refine Wz.h ?_);simp (disch:=omega) only [↓LD,LA,a0A,seval]))
  rw [e0r hlm ht (by omega)]
  exact end1 rfl rfl (by kernel_rfl) .f ⟨rfl,rfl⟩
instance {a b:Bs}{H:List Row}{K:D→List Row→Prop}[ha:Kn (a.length≤1000000)]:Wa (a0P Tryz.prog (.fn 124 []) [.f (fY a),.f (fY b)] H K) (K (.f (.v (.bool (eqB a b)))) H):=⟨fun h=>a0C (c1h a b ha.h) rfl rfl rfl h⟩
set_option maxRecDepth 100000 in
theorem x0V (a b:Ev)(ha:FitV a)(hb:FitV b):Con Tryz.prog 77 [evD a,evD b] [] fun r H'=>r=D.bool (eqB a b)∧H'=[]:=by
 haveI:Kn (k0F a.defs):=⟨ha.df⟩
 haveI:Kn (k0F b.defs):=⟨hb.df⟩
 haveI:Kn (a.data.length≤1000000):=⟨ha.1⟩
 clear ha hb
 suffices hh:∀ Q:D→List Row→Prop,Q (D.bool (eqB a b)) []→Con Tryz.prog 77 [evD a,evD b] [] Q from hh _ ⟨rfl,rfl⟩
 intro Q hQ
 obtain ⟨a1,a2,a3,a4,a5,a6,a7,a8,a9⟩:=a
 obtain ⟨b1,b2,b3,b4,b5,b6,b7,b8,b9⟩:=b
 dsimp only at *
 have hf:¬ ((⟨a1,a2,a3,a4,a5,a6,a7,a8,a9⟩:Ev)=⟨b1,b2,b3,b4,b5,b6,b7,b8,b9⟩)→Q (D.bool false) []:=fun h=>by rw [d0v h] at hQ;exact hQ
 have ht:a1=b1→a2=b2→a3=b3→a4=b4→a5=b5→a6=b6→a7=b7→a8=b8→Q (D.bool (eqB a9 b9)) []:=by
  rintro rfl rfl rfl rfl rfl rfl rfl rfl
  by_cases e9:a9=b9
  ·rw [f0p e9];rw [e9,d0a] at hQ;exact hQ
  ·rw [d0v e9];exact hf (fun e=>e9 (Ev.mk.inj e).2.2.2.2.2.2.2.2)
 clear hQ
 refine Con.walk good w0l (by simp) ?_
 unfold q0t
 simp only [a0I,evD]
 by_cases e8:a8=b8
 ·have h8:=f0p e8
  repeat' (with_reducible first|refine Wx.h ?_|refine Wb.h fun K hK=>?_|(refine hK _ ?_;clear hK K)|refine Wq.h ?_ ?_<;>intro h|((fail_if_success refine Wz.h ?_);simp (disch:=omega) only [↓LD,LA,a0A,seval,h8]))
  all_goals first
   | exact end1 rfl rfl (by kernel_rfl) .f (ht (by assumption) (by assumption) (by assumption) (by assumption) (by assumption) (by assumption) (by assumption) e8)
   | exact end1 rfl rfl (by kernel_rfl) .f (hf (by intro e;cases e;contradiction))
 ·have h8:=d0v e8
  repeat' (with_reducible first|refine Wx.h ?_|refine Wb.h fun K hK=>?_|(refine hK _ ?_;clear hK K)|refine Wq.h ?_ ?_<;>intro h|((fail_if_success refine Wz.h ?_);simp (disch:=omega) only [↓LD,LA,a0A,seval,h8]))
  all_goals exact end1 rfl rfl (by kernel_rfl) .f (hf (fun e=>e8 (Ev.mk.inj e).2.2.2.2.2.2.2.1))
instance {a b:Ev}{H:List Row}{K:Bool→D→List Row→Prop}[ha:Kn (FitV a)][hb:Kn (FitV b)]:Wa (a0k Tryz.prog (.fn 77 []) [eA a,eA b] H K) (K true (.f (.v (.bool (eqB a b)))) H):=⟨fun h=>a0M (x0V a b ha.h hb.h) rfl rfl rfl h⟩
noncomputable def b0A:List Ev→List Ev→Nat
 | a :: l,b :: m=>if eqB a b=true then b0A l m+1 else 0
 | _,_=>0
theorem l0Q:∀ (l m:List Ev),b0A l m≤l.length∧b0A l m≤m.length
 | a :: l,b :: m=>by
  have ih:=l0Q l m
  unfold b0A
  split<;>simp<;>omega
 | [],m=>by simp [b0A]
 | a :: l,[]=>by simp [b0A]
set_option maxRecDepth 100000 in
theorem t0S (l m:List Ev)(hl:FitL l)(hm:FitL m):Con Tryz.prog 45 [.f (fEv l),.f (fEv m)] [] fun r H'=>r=D.int (b0A l m)∧H'=[]:=by
 obtain ⟨hl,hln⟩:=hl
 obtain ⟨hm,hmn⟩:=hm
 refine Con.walk good p0f (by simp) ?_
 unfold h0x
 simp only [a0I]
 repeat' (with_reducible first|refine Wx.h ?_|refine Wb.h fun K hK=>?_|(refine hK _ ?_;clear hK K)|((fail_if_success refine Wz.h ?_);simp (disch:=omega) only [↓LD,LA,a0A,seval,LEv]))
 refine HS.loopG [0,1,5] (fun i:Nat=>⟨frm 27 [(0,.f (fEv l)),(1,.f (fEv m)),(5,D.int i)],[],[]⟩) (fun i=>i≤l.length∧i≤m.length∧b0A l m=b0A (l.drop i) (m.drop i)+i) (fun i=>l.length-i) 0 (by kernel_rfl) ⟨Nat.zero_le _,Nat.zero_le _,rfl⟩ ?_
 rintro i ⟨hi,hj,ha⟩
 by_cases hil:i<l.length∧i<m.length
 ·obtain ⟨hil,him⟩:=hil
  haveI:Kn (FitV (gt l i)):=⟨hln _ (a0K hil)⟩
  haveI:Kn (FitV (gt m i)):=⟨hmn _ (a0K him)⟩
  rw [a0G hil,a0G him,b0A] at ha
  by_cases e:gt l i=gt m i
  ·have hb:=f0p e
   rw [if_pos hb] at ha
   repeat' (with_reducible first|refine Wx.h ?_|refine We.h fun K hK=>?_|refine Wd.h fun K M hK hM=>?_|(refine hK _ _ _ _ ?_;clear hK K;try clear hM M)|refine Wb.h fun K hK=>?_|(refine hK _ ?_;clear hK K)|(refine Wy.h ?_ ?_;kernel_rfl)|refine Wq.h ?_ ?_<;>intro h<;>try (exfalso;omega)|((fail_if_success refine Wz.h ?_);first|simp (disch:=omega) only [↓LD,LA,a0A,seval,LEv,c0T,a0L,Ev.cs,hb,List.map_cons,List.map_nil,-a0A]|(refine And.intro ?_ ?_;omega)|fail))
   all_goals exact Next.mk (i+1) (by kernel_rfl) ⟨by omega,by omega,by omega⟩ (by omega)
  ·have hb:=d0v e
   rw [if_neg (by rw [hb];simp)] at ha
   repeat' (with_reducible first|refine Wx.h ?_|refine We.h fun K hK=>?_|refine Wd.h fun K M hK hM=>?_|(refine hK _ _ _ _ ?_;clear hK K;try clear hM M)|refine Wb.h fun K hK=>?_|(refine hK _ ?_;clear hK K)|(refine Wy.h ?_ ?_;kernel_rfl)|refine Wq.h ?_ ?_<;>intro h<;>try (exfalso;omega)|((fail_if_success refine Wz.h ?_);first|simp (disch:=omega) only [↓LD,LA,a0A,seval,LEv,c0T,a0L,Ev.cs,hb,List.map_cons,List.map_nil,-a0A]|(refine And.intro ?_ ?_;omega)|fail))
   all_goals
    rw [ha,Nat.zero_add]
    exact end1 rfl rfl (by kernel_rfl) .f ⟨rfl,rfl⟩
 ·have h0:b0A (l.drop i) (m.drop i)=0:=by
   have h:=l0Q (l.drop i) (m.drop i)
   rw [List.length_drop,List.length_drop] at h
   omega
  rw [h0,Nat.zero_add] at ha
  rw [ha]
  clear ha h0
  repeat' (with_reducible first|refine Wx.h ?_|refine We.h fun K hK=>?_|refine Wd.h fun K M hK hM=>?_|(refine hK _ _ _ _ ?_;clear hK K;try clear hM M)|(refine hM ?_;clear hM M;try clear hK K)|refine Wb.h fun K hK=>?_|(refine hK _ ?_;clear hK K)|(refine Wy.h ?_ ?_;kernel_rfl)|refine Wq.h ?_ ?_<;>intro h<;>try (exfalso;omega)|((fail_if_success refine Wz.h ?_);simp (disch:=omega) only [↓LD,LA,a0A,seval,LEv]))
  all_goals exact end1 rfl rfl (by kernel_rfl) .f ⟨rfl,rfl⟩
instance {l m:List Ev}{H:List Row}{K:D→List Row→Prop}[hl:Kn (FitL l)][hm:Kn (FitL m)]:Wa (a0P Tryz.prog (.fn 45 []) [.f (fEv l),.f (fEv m)] H K) (K (.f (.v (.int .i64 (b0A l m)))) H):=⟨fun h=>a0C (t0S l m hl.h hm.h) rfl rfl rfl h⟩
theorem q0C (l:List Ev)(hl:IdL l)(hk:(ofL l).length≤1000000):Con Tryz.prog 78 [.f (fEv l)] [] fun r H'=>r=D.int (a0i (ofL l)).ver∧H'=[]:=by
 haveI:Kn (IdL l):=⟨hl⟩
 haveI:Kn ((ofL l).length≤1000000):=⟨hk⟩
 refine Con.walk good n0f (by simp) ?_
 unfold g0a
 simp only [a0I]
 repeat' (with_reducible first|refine Wx.h ?_|refine Wb.h fun K hK=>?_|(refine hK _ ?_;clear hK K)|((fail_if_success refine Wz.h ?_);simp (disch:=omega) only [↓LD,LA,a0A,seval]))
 exact end1 rfl rfl (by kernel_rfl) .f ⟨rfl,rfl⟩
noncomputable def g1P (l m:List Ev)(k:Int):Bool:=decide (k≤b0A l m)&&decide ((b0A l m:Int)<min l.length m.length)&&decide ((gt l (b0A l m)).ver=(gt m (b0A l m)).ver)
def g0s:SCode :=
  (jq ([.a 2 (.mv kN)]) (jq ([.a 3 (.mv kN)]) (.seq (jq ([jm 6 0,je 7 6,jk 8 0]) (.block 0 (.loop (jq ([jB 9 .lss 8 7]) (.seq (jc 9 .skip (.exit 0))
 (.seq (.block 1 (jq ([jx 10 9 6 8,jL 11 9 10,.a 5 (.alloc 73 [jI,jI,jI,jI,jI,jI,(.f (.v (.string ⟨#[]⟩))),jN,jN]),.n (.store 9 (.t 5) (.t
 11))]) (.ops (ap [jm 12 3,jL 13 9 5,.a 14 (.call (kC 68) [(.t 13)])] (ap [.a 15 (.bsl 73 9 1 [jI,jI,jI,jI,jI,jI,(.f (.v (.string ⟨#[]⟩))),jN,
 jN] [(0,(.t 14))]),.a 16 (.app 73 9 112 (.t 12) (.t 15))] [jm 3 16]))))) (.ops [jb 17 .add 8 1,jm 8 17]))))))) (jq ([jm 18 3,jm 2 18]) .ret))))
theorem n0Z:Fn Tryz.prog 51 19 [.t 2] g0s:=.of Tryz.func51 (by kernel_rfl)
theorem e1m {e:Ev}(h:FitV e):FitN e.defs:=fun x hx=>by have:=h.2.2.2 x hx;omega
set_option maxRecDepth 100000 in
theorem n0L (l:List Ev)(hf:FitL l):Con Tryz.prog 51 [.f (fEv l)] [] fun r H'=>r = .sl 0 0 l.length∧H'=[rEv l]:=by
 obtain ⟨hl,hln⟩:=hf
 refine Con.walk good n0Z (by simp) ?_
 unfold g0s
 simp only [a0I]
 refine HS.seq ?_
 repeat' (with_reducible first|refine Wa.h ?_|refine Wb.h fun K hK=>?_|(refine hK _ ?_;clear hK K)|((fail_if_success refine Wz.h ?_);simp (disch:=omega) only [↓LD,LA,a0A,seval]))
 refine HS.seq ?_
 repeat' (with_reducible first|refine Wa.h ?_|refine Wb.h fun K hK=>?_|(refine hK _ ?_;clear hK K)|((fail_if_success refine Wz.h ?_);simp (disch:=omega) only [↓LD,LA,a0A,seval]))
 refine HS.view (View.void 73) ?_
 refine HS.view (View.slot 3 (.sl 0 0 0) (.no (by decide))) ?_
 repeat' (with_reducible first|refine Wx.h ?_|refine Wb.h fun K hK=>?_|(refine hK _ ?_;clear hK K)|((fail_if_success refine Wz.h ?_);simp (disch:=omega) only [↓LD,LA,a0A,seval,LEv]))
 refine HS.loopG [3,6,7,8] (fun i:Nat=>⟨frm 19 [(3,.sl 0 0 i),(6,.f (fEv l)),(7,D.int l.length),(8,D.int i)],[.data 73 ((l.take i).flatMap Ev.cs)],[]⟩) (fun i=>i≤l.length) (fun i=>l.length-i) 0 (by kernel_rfl) (Nat.zero_le _) ?_
 rintro i hi
 by_cases hil:i<l.length
 ·have hv:=hln _ (a0K hil)
  have hfn:=e1m hv
  obtain ⟨f1,f2,f3,f4⟩:=hv
  have hlen:((l.take i).flatMap Ev.cs).length=i*9:=by rw [a0L,List.length_take,Nat.min_eq_left hi]
  have ha:(l.take i).flatMap Ev.cs++Ev.cs (gt l i)=(l.take (i+1)).flatMap Ev.cs:=by
   rw [List.take_succ_eq_append_getElem hil,List.flatMap_append,←b0P hil];simp
  generalize hg:gt l i=e at *
  rw [Ev.cs] at ha
  repeat' (with_reducible first|refine Wx.h ?_|refine Wb.h fun K hK=>?_|(refine hK _ ?_;clear hK K)|refine Wq.h ?_ ?_<;>intro h<;>try (exfalso;omega)|((fail_if_success refine Wz.h ?_);first|simp (disch:=omega) only [↓LD,LA,a0A,seval,LEv,c0T,a0L,Ev.cs,hg,hlen,evD,ha,List.map_cons,List.map_nil,-a0A]|(refine And.intro ?_ ?_;omega)|fail))
  refine ⟨⟨hfn,by omega,by omega⟩,?_⟩
  repeat' (with_reducible first|refine Wx.h ?_|refine Wb.h fun K hK=>?_|(refine hK _ ?_;clear hK K)|((fail_if_success refine Wz.h ?_);first|simp (disch:=omega) only [↓LD,LA,a0A,seval,LEv,c0T,a0L,Ev.cs,hg,hlen,evD,ha,List.map_cons,List.map_nil,-a0A]|(refine And.intro ?_ ?_;omega)|fail))
  exact Next.mk (i+1) (by kernel_rfl) (by omega) (by omega)
 ·rw [List.take_of_length_le (by omega)]
  obtain rfl:i=l.length:=by omega
  repeat' (with_reducible first|refine Wx.h ?_|refine Wb.h fun K hK=>?_|(refine hK _ ?_;clear hK K)|refine Wq.h ?_ ?_<;>intro h<;>try (exfalso;omega)|((fail_if_success refine Wz.h ?_);simp (disch:=omega) only [↓LD,LA,a0A,seval]))
  exact endG rfl rfl (ef:=⟨.sl 0 0 l.length,[],[rEv l]⟩) (by kernel_rfl) ⟨rfl,rfl⟩
theorem c1q {x y:Im}:eqL [0,0] [.f (.v (.int .i64 x.id)),.f (.v (.int .i64 x.ver))] [.f (.v (.int .i64 y.id)),.f (.v (.int .i64 y.ver))]=some (eqB x y):=by
 simp only [eqL,eqV,if_true,Bool.and_true]
 obtain ⟨a1,a2⟩:=x
 obtain ⟨b1,b2⟩:=y
 congr 1
 by_cases e:(⟨a1,a2⟩:Im)=⟨b1,b2⟩
 ·rw [f0p e];cases e;simp
 ·rw [d0v e]
  by_cases e1:a1=b1
  ·have e2:¬ a2=b2:=fun e2=>e (by rw [e1,e2])
   simp [e2]
  ·simp [e1]
set_option maxRecDepth 100000 in
theorem z0S (l m:List Im)(hl:l.length≤1000000)(hm:m.length≤1000000):Con Tryz.prog 55 [.f (fIm l),.f (fIm m)] [] fun r H'=>r=D.bool (eqB l m)∧H'=[]:=by
 refine Con.walk good w0m (by simp) ?_
 unfold q0u
 simp only [a0I]
 by_cases hlm:(l.length:Int)=m.length
 rotate_left
 ·repeat' (with_reducible first|refine Wx.h ?_|refine Wb.h fun K hK=>?_|(refine hK _ ?_;clear hK K)|(refine wF ?_ ?_;assumption)|((fail_if_success refine Wz.h ?_);simp (disch:=omega) only [↓LD,LA,a0A,seval,LIm]))
  rw [f0D hlm]
  exact end1 rfl rfl (by kernel_rfl) .f ⟨rfl,rfl⟩
 repeat' (with_reducible first|refine Wx.h ?_|refine Wb.h fun K hK=>?_|(refine hK _ ?_;clear hK K)|(refine wT ?_ ?_;assumption)|((fail_if_success refine Wz.h ?_);simp (disch:=omega) only [↓LD,LA,a0A,seval,LIm]))
 refine HS.loopG [0,1,12,13] (fun i:Nat=>⟨frm 26 [(0,.f (fIm l)),(1,.f (fIm m)),(12,D.int l.length),(13,D.int i)],[],[]⟩) (fun i=>i≤l.length∧l.take i=m.take i) (fun i=>l.length-i) 0 (by kernel_rfl) ⟨Nat.zero_le _,rfl⟩ ?_
 rintro i ⟨hi,ht⟩
 by_cases hil:i<l.length
 ·have him:i<m.length:=by omega
  by_cases e:gt l i=gt m i
  ·have hb:=f0p e
   repeat' (with_reducible first|refine Wx.h ?_|refine We.h fun K hK=>?_|(refine hK _ _ _ _ ?_;clear hK K;try clear hM M)|refine Wb.h fun K hK=>?_|(refine hK _ ?_;clear hK K)|(refine Wy.h ?_ ?_;kernel_rfl)|refine Wq.h ?_ ?_<;>intro h<;>try (exfalso;omega)|((fail_if_success refine Wz.h ?_);first|simp (disch:=omega) only [↓LD,LA,a0A,seval,LIm,h0c,b0p,Im.cs,c1q,hb,Bool.not_true,List.map_cons,List.map_nil,-a0A]|(refine And.intro ?_ ?_;omega)|fail))
   all_goals exact Next.mk (i+1) (by kernel_rfl) ⟨by omega,c0f hlm hil ht e⟩ (by omega)
  ·have hb:=d0v e
   repeat' (with_reducible first|refine Wx.h ?_|refine We.h fun K hK=>?_|(refine hK _ _ _ _ ?_;clear hK K;try clear hM M)|refine Wb.h fun K hK=>?_|(refine hK _ ?_;clear hK K)|(refine Wy.h ?_ ?_;kernel_rfl)|refine Wq.h ?_ ?_<;>intro h<;>try (exfalso;omega)|((fail_if_success refine Wz.h ?_);first|simp (disch:=omega) only [↓LD,LA,a0A,seval,LIm,h0c,b0p,Im.cs,c1q,hb,Bool.not_false,List.map_cons,List.map_nil,-a0A]|(refine And.intro ?_ ?_;omega)|fail))
   all_goals
    rw [i0q e]
    exact end1 rfl rfl (by kernel_rfl) .f ⟨rfl,rfl⟩
 ·repeat' (with_reducible first|refine Wx.h ?_|refine Wb.h fun K hK=>?_|(refine hK _ ?_;clear hK K)|refine Wq.h ?_ ?_<;>intro h<;>try (exfalso;omega)|((fail_if_success refine Wz.h ?_);simp (disch:=omega) only [↓LD,LA,a0A,seval,LIm]))
  rw [e0r hlm ht (by omega)]
  exact end1 rfl rfl (by kernel_rfl) .f ⟨rfl,rfl⟩
instance {a b:List Im}{H:List Row}{K:D→List Row→Prop}[ha:Kn (a.length≤1000000)][hb:Kn (b.length≤1000000)]:Wa (a0P Tryz.prog (.fn 55 []) [.f (fIm a),.f (fIm b)] H K) (K (.f (.v (.bool (eqB a b)))) H):=⟨fun h=>a0C (z0S a b ha.h hb.h) rfl rfl rfl h⟩
set_option maxRecDepth 100000 in
theorem a1w (t:Br)(pre:List Im)(ht:TrK t)(hp:pre.length≤1000000)(h0:¬ pre.length=0):Con Tryz.prog 21 [.ag [.f (fBr t)],.f (fIm pre)] [] fun r H'=>match d0n t pre with
  | none=>r = .tp [jN,D.bool false]∧H'=[]
  | some hd=>r = .tp [.sl 0 0 hd.length,D.bool true]∧H'=[rEv hd]:=by
 have htl:=ht.len
 have hfp:d0n t pre=(t.find? (e0b pre)).map fun b=>b.take (a0i pre).id.toNat:=by unfold d0n;rw [if_neg h0]
 rw [hfp]
 haveI:Kn (pre.length≤1000000):=⟨hp⟩
 refine Con.walk good m0Z (by simp) ?_
 unfold j0T
 simp only [a0I]
 repeat' (with_reducible first|refine Wx.h ?_|refine Wb.h fun K hK=>?_|(refine hK _ ?_;clear hK K)|refine Wq.h ?_ ?_<;>intro h<;>try (exfalso;omega)|((fail_if_success refine Wz.h ?_);simp (disch:=omega) only [↓LD,LA,a0A,seval,LIm,LBr]))
 refine HS.loopG [1,6,16,17,18] (fun i:Nat=>⟨frm 43 [(1,.f (fIm pre)),(6,D.int (a0i pre).id),(16,.f (fBr t)),(17,D.int t.length),(18,D.int i)],[],[]⟩) (fun i=>i≤t.length∧t.find? (e0b pre)=(t.drop i).find? (e0b pre)) (fun i=>t.length-i) 0 (by kernel_rfl) ⟨Nat.zero_le _,rfl⟩ ?_
 rintro i ⟨hi,hF⟩
 by_cases hil:i<t.length
 rotate_left
 ·rw [List.drop_of_length_le (by omega)] at hF
  rw [hF]
  repeat' (with_reducible first|refine Wx.h ?_|refine Wb.h fun K hK=>?_|(refine hK _ ?_;clear hK K)|refine Wq.h ?_ ?_<;>intro h<;>try (exfalso;omega)|((fail_if_success refine Wz.h ?_);simp (disch:=omega) only [↓LD,LA,a0A,seval,LBr]))
  exact RetS.still (ds:=[jN,D.bool false]) (by kernel_rfl) (by kernel_rfl) (.tps (.cons .f (.cons .f .nil))) ⟨rfl,rfl⟩
 obtain ⟨ok,ne⟩:=ht.gt hil
 rw [a0G hil,List.find?_cons] at hF
 have hll:=ok.len
 generalize hb:gt t i=b at *
 have hno:e0b pre b=false→t.find? (e0b pre)=(t.drop (i+1)).find? (e0b pre):=fun h=>by rw [hF,h]
 have hyes:e0b pre b=true→t.find? (e0b pre)=some b:=fun h=>by rw [hF,h]
 clear hF
 by_cases h1:1≤(a0i pre).id∧(a0i pre).id≤b.length
 rotate_left
 ·have hn:=hno (by
   unfold e0b
   by_cases h2:1≤(a0i pre).id
   ·rw [decide_eq_false (p:=(a0i pre).id≤b.length) (fun h=>h1 ⟨h2,h⟩)];simp
   ·rw [decide_eq_false h2];rfl)
  repeat' (with_reducible first|refine Wx.h ?_|refine Wb.h fun K hK=>?_|(refine hK _ ?_;clear hK K)|refine Wq.h ?_ ?_<;>intro h<;>try (exfalso;omega)|((fail_if_success refine Wz.h ?_);first|simp (disch:=omega) only [↓LD,LA,a0A,seval,LIm,LBr,LEv,hb]|(refine And.intro ?_ ?_;omega)|fail))
  all_goals exact Next.mk (i+1) (by kernel_rfl) ⟨by omega,hn⟩ (by omega)
 obtain ⟨c,hc⟩:∃ c:Nat,(a0i pre).id=c:=⟨(a0i pre).id.toNat,by omega⟩
 simp only [hc] at h1 ⊢
 have hs:∀ H:List Row,subS H 9 73 (.f (fEv b)) 0 c=some (.f (fEv (b.take c))):=fun H=>c0x (by omega)
 have hok:=ok.take c
 haveI:Kn (IdL (b.take c)):=⟨hok.idL⟩
 haveI:Kn ((ofL (b.take c)).length≤1000000):=⟨hok.ofK⟩
 have hfe:e0b pre b=eqB (ofL (b.take c)) pre:=by
  unfold e0b
  rw [hc,decide_eq_true h1.1,decide_eq_true h1.2,Int.toNat_natCast];rfl
 rw [hfe] at hno hyes
 cases he:eqB (ofL (b.take c)) pre with
 | true =>
  rw [hyes he]
  repeat' (with_reducible first|refine Wx.h ?_|refine Wb.h fun K hK=>?_|(refine hK _ ?_;clear hK K)|refine Wq.h ?_ ?_<;>intro h<;>try (exfalso;omega)|((fail_if_success refine Wz.h ?_);first|simp (disch:=omega) only [↓LD,LA,a0A,seval,LIm,LBr,LEv,hb,hs,he,Int.toNat_natCast]|(refine And.intro ?_ ?_;omega)|fail))
  refine a0J (n0L (b.take c) hok.fitL) [] (by kernel_rfl) rfl rfl ?_
  rintro _ _ ⟨rfl,rfl⟩
  simp (disch:=omega) only [↓LD,LA,a0A,seval,ren,List.getElem?_nil,rEv]
  repeat' (with_reducible first|refine Wx.h ?_|(refine hK _ ?_;clear hK K)|((fail_if_success refine Wz.h ?_);simp (disch:=omega) only [↓LD,LA,a0A,seval]))
  exact g1T rfl rfl rfl rfl (ef:=⟨.tp [.sl 0 0 (b.take c).length,D.bool true],[],[rEv (b.take c)]⟩) (by kernel_rfl) ⟨rfl,rfl⟩
 | false =>
  have hn:=hno he
  repeat' (with_reducible first|refine Wx.h ?_|refine Wb.h fun K hK=>?_|(refine hK _ ?_;clear hK K)|refine Wq.h ?_ ?_<;>intro h<;>try (exfalso;omega)|((fail_if_success refine Wz.h ?_);first|simp (disch:=omega) only [↓LD,LA,a0A,seval,LIm,LBr,LEv,hb,hs,he,Int.toNat_natCast]|(refine And.intro ?_ ?_;omega)|fail))
  all_goals exact Next.mk (i+1) (by kernel_rfl) ⟨by omega,hn⟩ (by omega)
end Go.Proofs.YthjgmldnegaaiaaGreatDoor.Mir
namespace Go.Proofs.YthjgmldnegaaiaaGreatDoor
open Go Go.RowKit Go.Lib Go.Shelf Go.Proofs
end Go.Proofs.YthjgmldnegaaiaaGreatDoor
namespace Go.Proofs.YthjgmldnegaaiaaGreatDoor.Mir
open Go Go.RowKit
theorem g1H {P:Program}{f:FuncId}(h:((P.funcs[f]?).bind fun fn=>fn.body).isSome=true):∃ fn,P.funcs[f]?=some fn∧fn.body.isSome=true:=by
 cases hf:P.funcs[f]? with
 | none=>rw [hf] at h;cases h
 | some fn=>rw [hf] at h;exact ⟨fn,rfl,h⟩
end Go.Proofs.YthjgmldnegaaiaaGreatDoor.Mir
namespace Go.Proofs.YthjgmldnegaaiaaGreatDoor.Mir
open Go Go.RowKit Go.Lib Go.Proofs
set_option maxHeartbeats 4000000
end Go.Proofs.YthjgmldnegaaiaaGreatDoor.Mir
namespace Go.Proofs.YthjgmldnegaaiaaGreatDoor.Mir
open Go Go.RowKit
set_option maxHeartbeats 4000000
noncomputable def e1W (t:Br)(l:List Ev):Br × Int :=
 if (t.filter fun b=>!begB b l).any (fun b=>decide (a0W b=a0W l))=true then ([],1) else if 8≤(t.filter fun b=>!begB b l).length then ([],2) else (insU l (t.filter fun b=>!begB b l),0)
set_option maxRecDepth 100000 in
theorem y0n (l:List Ev)(hl:l.length≤1000000)(hf:∀ e∈l,FitV e):Con Tryz.prog 24 [.f (fEv l)] [] fun r H'=>r = .tp [stD (a0N s0 l).2,D.int (a0N s0 l).1]∧H'=[]:=by
 refine Con.walk good x0f (by simp) ?_
 unfold p0L
 simp only [a0I]
 repeat' (with_reducible first|refine Wx.h ?_|refine Wb.h fun K hK=>?_|(refine hK _ ?_;clear hK K)|((fail_if_success refine Wz.h ?_);simp (disch:=omega) only [↓LD,LA,a0A,seval,LEv]))
 refine HS.view (View.bcell 1 5 (.f (.s [] 0)) rfl rfl .ns) ?_
 refine HS.view (View.void 158) ?_
 refine HS.view (View.void 180) ?_
 refine HS.view (View.void 106) ?_
 refine HS.view (View.bcell 1 6 (.sl 2 0 0) rfl rfl (.no (by show 2<5;omega))) ?_
 refine HS.view (View.bcell 1 7 (.sl 3 0 0) rfl rfl (.no (by show 3<5;omega))) ?_
 refine HS.view (View.bcell 1 8 (.sl 4 0 0) rfl rfl (.no (by show 4<5;omega))) ?_
 refine HS.loopG [2,4,9,10,11] (fun x:Nat × S12=>⟨frm 23 [(2,.pt 0 0),(4,.pt 1 0),(9,.f (fEv l)),(10,D.int l.length),(11,D.int x.1)],[.box 65 [jI,jI,jI,jI,jF,jN,jN,jN,jN],.box 65 (stL 2 3 4 x.2),rN x.2.nodes,rT x.2.tms,rS x.2.sgs],[]⟩)
  (fun x=>x.1≤l.length∧Ok12 x.2∧a0N s0 l=a0N x.2 (l.drop x.1)) (fun x=>l.length-x.1) (0,s0) (by kernel_rfl) ⟨Nat.zero_le _,y0j,rfl⟩ ?_
 rintro ⟨i,s⟩ ⟨hi,ho,hF⟩
 dsimp only at hi ho hF
 by_cases hil:i<l.length
 ·rw [a0G hil,a0N] at hF
  have hv:=hf _ (a0K hil)
  have he:=z0x (e:=gt l i) ho
  unfold b1b at he
  obtain ⟨hA,_,_⟩:=ho.fitA
  have hid:=ho.id
  have ho2:=d0E (e:=gt l i) ho hv.2.2.2
  repeat' (with_reducible first|refine Wx.h ?_|refine Wb.h fun K hK=>?_|(refine hK _ ?_;clear hK K)|refine Wq.h ?_ ?_<;>intro h<;>try (exfalso;omega)|((fail_if_success refine Wz.h ?_);first|simp (disch:=omega) only [↓LD,LA,a0A,seval,LEv,c0T,a0L,Ev.cs,stL,rN,rT,rS,-a0A,List.map_cons,List.map_nil]|(refine And.intro ?_ ?_;omega)|fail))
  refine a0J (w0p s (gt l i) hA hv.1 hv.2.2 ⟨hid.1,by omega⟩) [1,2,3,4] (by kernel_rfl) rfl rfl ?_
  rintro _ _ ⟨rfl,m,rfl⟩
  generalize c0M s (gt l i)=p at he ⊢
  obtain ⟨v,s'⟩:=p
  dsimp only at he ⊢
  rcases m with _|_|_|m
  ·simp (disch:=omega) only [↓LD,LA,a0A,seval,ren,List.getElem?_nil,stM,stH,stL,rN,rT,rS]
   repeat' (with_reducible first|refine Wx.h ?_|refine Wb.h fun K hK=>?_|(refine hK _ ?_;clear hK K)|refine Wq.h ?_ ?_<;>intro h|((fail_if_success refine Wz.h ?_);simp (disch:=omega) only [↓LD,LA,a0A,seval]))
   ·have hv0:v=0:=by assumption
    rw [if_pos hv0] at he
    rw [←he] at hF ho2
    rw [if_pos rfl] at hF
    exact Next.mk (i+1,s') (by kernel_rfl) ⟨by dsimp only;omega,ho2 rfl,hF⟩ (by dsimp only;omega)
   ·have hv0:¬ v=0:=by assumption
    rw [if_neg hv0] at he
    rw [←he,if_neg hv0] at hF
    rw [hF]
    exact RetS.still (ds:=[.ag [jI,jI,jI,jI,jF,jN,jN,jN,jN],D.int v]) (by kernel_rfl) (by kernel_rfl) (.tps (.cons (.ags (.cons .f (.cons .f (.cons .f (.cons .f (.cons .f (.cons .nil (.cons .nil (.cons .nil (.cons .nil .nil)))))))))) (.cons .f .nil))) ⟨rfl,rfl⟩
  ·simp (disch:=omega) only [↓LD,LA,a0A,seval,ren,List.getElem?_nil,stM,stH,stL,rN,rT,rS]
   repeat' (with_reducible first|refine Wx.h ?_|refine Wb.h fun K hK=>?_|(refine hK _ ?_;clear hK K)|refine Wq.h ?_ ?_<;>intro h|((fail_if_success refine Wz.h ?_);simp (disch:=omega) only [↓LD,LA,a0A,seval]))
   ·have hv0:v=0:=by assumption
    rw [if_pos hv0] at he
    rw [←he] at hF ho2
    rw [if_pos rfl] at hF
    exact Next.mk (i+1,s') (by kernel_rfl) ⟨by dsimp only;omega,ho2 rfl,hF⟩ (by dsimp only;omega)
   ·have hv0:¬ v=0:=by assumption
    rw [if_neg hv0] at he
    rw [←he,if_neg hv0] at hF
    rw [hF]
    exact RetS.still (ds:=[.ag [jI,jI,jI,jI,jF,jN,jN,jN,jN],D.int v]) (by kernel_rfl) (by kernel_rfl) (.tps (.cons (.ags (.cons .f (.cons .f (.cons .f (.cons .f (.cons .f (.cons .nil (.cons .nil (.cons .nil (.cons .nil .nil)))))))))) (.cons .f .nil))) ⟨rfl,rfl⟩
  ·simp (disch:=omega) only [↓LD,LA,a0A,seval,ren,List.getElem?_nil,stM,stH,stL,rN,rT,rS]
   repeat' (with_reducible first|refine Wx.h ?_|refine Wb.h fun K hK=>?_|(refine hK _ ?_;clear hK K)|refine Wq.h ?_ ?_<;>intro h|((fail_if_success refine Wz.h ?_);simp (disch:=omega) only [↓LD,LA,a0A,seval]))
   ·have hv0:v=0:=by assumption
    rw [if_pos hv0] at he
    rw [←he] at hF ho2
    rw [if_pos rfl] at hF
    exact Next.mk (i+1,s') (by kernel_rfl) ⟨by dsimp only;omega,ho2 rfl,hF⟩ (by dsimp only;omega)
   ·have hv0:¬ v=0:=by assumption
    rw [if_neg hv0] at he
    rw [←he,if_neg hv0] at hF
    rw [hF]
    exact RetS.still (ds:=[.ag [jI,jI,jI,jI,jF,jN,jN,jN,jN],D.int v]) (by kernel_rfl) (by kernel_rfl) (.tps (.cons (.ags (.cons .f (.cons .f (.cons .f (.cons .f (.cons .f (.cons .nil (.cons .nil (.cons .nil (.cons .nil .nil)))))))))) (.cons .f .nil))) ⟨rfl,rfl⟩
  ·simp (disch:=omega) only [↓LD,LA,a0A,seval,ren,List.getElem?_nil,stM,stH,stL,rN,rT,rS]
   repeat' (with_reducible first|refine Wx.h ?_|refine Wb.h fun K hK=>?_|(refine hK _ ?_;clear hK K)|refine Wq.h ?_ ?_<;>intro h|((fail_if_success refine Wz.h ?_);simp (disch:=omega) only [↓LD,LA,a0A,seval]))
   ·have hv0:v=0:=by assumption
    rw [if_pos hv0] at he
    rw [←he] at hF ho2
    rw [if_pos rfl] at hF
    exact Next.mk (i+1,s') (by kernel_rfl) ⟨by dsimp only;omega,ho2 rfl,hF⟩ (by dsimp only;omega)
   ·have hv0:¬ v=0:=by assumption
    rw [if_neg hv0] at he
    rw [←he,if_neg hv0] at hF
    rw [hF]
    exact RetS.still (ds:=[.ag [jI,jI,jI,jI,jF,jN,jN,jN,jN],D.int v]) (by kernel_rfl) (by kernel_rfl) (.tps (.cons (.ags (.cons .f (.cons .f (.cons .f (.cons .f (.cons .f (.cons .nil (.cons .nil (.cons .nil (.cons .nil .nil)))))))))) (.cons .f .nil))) ⟨rfl,rfl⟩
 ·repeat' (with_reducible first|refine Wx.h ?_|refine Wb.h fun K hK=>?_|(refine hK _ ?_;clear hK K)|refine Wq.h ?_ ?_<;>intro h<;>try (exfalso;omega)|((fail_if_success refine Wz.h ?_);simp (disch:=omega) only [↓LD,LA,a0A,seval,LEv,stL,rN,rT,rS]))
  rw [List.drop_of_length_le (by omega),a0N] at hF
  rw [hF]
  exact RetS.still (ds:=[.ag (stL 2 3 4 s),D.int 0]) (by kernel_rfl) (by kernel_rfl) (.tps (.cons (f1A rfl rfl rfl) (.cons .f .nil))) ⟨rfl,rfl⟩
noncomputable def addQ (t:Br)(k:Int)(l:List Ev):Br × Bool × Int :=
 if (a0N s0 l).1≠0 then ([],false,1) else if (t.any fun x=>g1P l x k)=true then ([],false,1)
 else if (t.any fun x=>decide ((b0A l x:Int)=l.length))=true then (t,false,0) else ((e1W t l).1,decide ((e1W t l).2=0),(e1W t l).2)
noncomputable def addP (t:Br)(pre:List Im)(evs:List Ev):Br × Bool × Int :=
 if evs.length=0∨f1v pre=false then ([],false,1) else match d0n t pre with
 | none=>([],false,4)
 | some hd=>addQ t hd.length (hd++evs)
set_option maxRecDepth 100000 in
theorem w0a (t:Br)(ht:TrK t):Con Tryz.prog 21 [.ag [.f (fBr t)],.f (fIm [])] [] fun r H'=>r = .tp [.sl 0 0 0,D.bool true]∧H'=[rEv []]:=by
 refine Con.walk good m0Z (by simp) ?_
 unfold j0T
 simp only [a0I]
 haveI:Kn (([]:List Im).length≤1000000):=⟨by simp⟩
 refine HS.seq ?_
 repeat' (with_reducible first|refine Wa.h ?_|refine Wb.h fun K hK=>?_|(refine hK _ ?_;clear hK K)|((fail_if_success refine Wz.h ?_);simp (disch:=omega) only [↓LD,LA,a0A,seval,LIm,LBr]))
 refine HS.seq ?_
 repeat' (with_reducible first|refine Wa.h ?_|refine Wb.h fun K hK=>?_|(refine hK _ ?_;clear hK K)|((fail_if_success refine Wz.h ?_);simp (disch:=omega) only [↓LD,LA,a0A,seval,LIm,LBr]))
 refine HS.seq ?_
 refine HS.seq ?_
 repeat' (with_reducible first|refine Wa.h ?_|refine Wb.h fun K hK=>?_|(refine hK _ ?_;clear hK K)|((fail_if_success refine Wz.h ?_);simp (disch:=omega) only [↓LD,LA,a0A,seval,LIm,LBr]))
 repeat' (with_reducible first|refine Wa.h ?_|refine Ws.h ?_|refine Wb.h fun K hK=>?_|(refine hK _ ?_;clear hK K)|((fail_if_success refine Wz.h ?_);simp (disch:=omega) only [↓LD,LA,a0A,seval,LIm,LBr]))
 refine HS.view (View.void 73) ?_
 refine HS.view (View.slot 4 (.sl 1 0 0) (.no (by show 1<2;omega))) ?_
 repeat' (with_reducible first|refine Wx.h ?_|fail)
 exact g1T rfl rfl rfl rfl (ef:=⟨.tp [.sl 0 0 0,D.bool true],[],[rEv []]⟩) (by kernel_rfl) ⟨rfl,rfl⟩
theorem w0b (t:Br)(pre:List Im)(ht:TrK t)(hp:pre.length≤1000000):Con Tryz.prog 21 [.ag [.f (fBr t)],.f (fIm pre)] [] fun r H'=>match d0n t pre with
  | none=>r = .tp [jN,D.bool false]∧H'=[]
  | some hd=>r = .tp [.sl 0 0 hd.length,D.bool true]∧H'=[rEv hd]:=by
 by_cases h0:pre.length=0
 ·have hfn:d0n t pre=some []:=by unfold d0n;rw [if_pos h0]
  rw [hfn]
  obtain rfl:=List.eq_nil_of_length_eq_zero h0
  exact w0a t ht
 ·exact a1w t pre ht hp h0
theorem TrU.few {L:Br}{t:Br}(ht:TrU (Bg L) t):t.length≤L.length:=d1v ht.nd ht.anti fun b hb=>(ht.mem b hb).2
end Go.Proofs.YthjgmldnegaaiaaGreatDoor.Mir
namespace Go.Proofs.YthjgmldnegaaiaaGreatDoor.Mir
open Go Go.RowKit Go.Shelf Go.Maps Go.Sort
section
variable {P:Program}{w w':World}{φ:Nat→Nat × Nat}{X:Nat→Prop}{H:List Row}
end
end Go.Proofs.YthjgmldnegaaiaaGreatDoor.Mir
namespace Go.Proofs
open Go.RowKit Go.Maps Go.Sort Go.Shelf
end Go.Proofs
namespace Go.Proofs.YthjgmldnegaaiaaGreatDoor.Mir
open Go Go.RowKit Go.Shelf Go.Maps Go.Sort
end Go.Proofs.YthjgmldnegaaiaaGreatDoor.Mir
namespace Go.Proofs.YthjgmldnegaaiaaGreatDoor.Mir
open Go Go.RowKit
set_option maxHeartbeats 4000000
instance {l:List Ev}{H:List Row}{K:D→List Row→Prop}[hl:Kn (FitL l)]:Wa (a0P Tryz.prog (.fn 24 []) [.f (fEv l)] H K)
  (K (.tp [sA (a0N s0 l).2,.f (.v (.int .i64 (a0N s0 l).1))]) H):=⟨fun h=>a0C (y0n l hl.h.1 hl.h.2) rfl rfl rfl h⟩
theorem Con.vw {P:Program}{f:FuncId}{args:List D}{Q Q':D→List Row→Prop}(h:Con P f args [] Q)(hq:∀ d H',Q d H'→∃ d0,Vw H' d d0∧Q' d0 []):Con P f args [] Q' :=
 ⟨h.1,fun w φ X vs hH ha=>(h.2 w φ X vs hH ha).mono fun _ _ ⟨v,d,H1,h1,h2,φ',ho,hr,hv⟩=>by
  obtain ⟨d0,hw,hq'⟩:=hq d H1 h2
  have hA:∀ b,Av X φ' [] b→X b:=by
   rintro b (hb|⟨r,x,hx,_⟩)
   ·exact hb
   ·simp at hx
  exact ⟨v,d0,[],h1,hq',φ',⟨Nat.le_refl _,ho.same,ho.keep,fun b hb=>by obtain ⟨r,x,hx,_⟩:=hb;simp at hx⟩,⟨fun r x hx=>by simp at hx,fun r s x y hx=>by simp at hx,fun r x hx=>by simp at hx,hr.old,fun p hp=>(hr.gl p hp).thin fun b hb=>.inl (hA b hb)⟩,hw.ok hr hA v hv⟩⟩
def g1X (P:Program)(n0:Nat){α:Type}(st:α→St)(p:α→Prop)(m:α→Nat)(x:α)(s:St):Prop:=∃ y,View P n0 s (st y)∧p y∧m y<m x
instance {P:Program}{n0:Nat}{α:Type}{st:α→St}{p:α→Prop}{m:α→Nat}{x:α}{s:St}:Wz (g1X P n0 st p m x s):=⟨id⟩
inductive Enc (f:Nat→Int):Nat→List Im→Nat→Prop
 | nil {lo:Nat}:Enc f lo [] lo
 | cons {lo mid hi:Nat} {x:Im} {I:List Im}:x.id=mid→lo<mid→(∀ k,lo≤k→k<mid→f k=x.ver)→Enc f mid I hi→Enc f lo (x :: I) hi
theorem Enc.le {f:Nat→Int}{lo hi:Nat}{I:List Im}(h:Enc f lo I hi):lo≤hi:=by
 induction h with
 | nil=>exact Nat.le_refl _
 | cons _ h1 _ _ ih=>omega
theorem w0j {x:Im}{I:List Im}{id v:Int}(h:I≠[]):b0n (x :: I) id v=x :: b0n I id v:=by
 have hp:=List.length_pos_iff.2 h
 have e:(x :: I).length-1=(I.length-1)+1:=by simp;omega
 have g:gt (x :: I) ((x :: I).length-1)=gt I (I.length-1):=by rw [e];simp [gt]
 unfold b0n
 rw [g]
 by_cases hv:(gt I (I.length-1)).ver=v
 ·rw [if_pos ⟨by simp,hv⟩,if_pos ⟨hp,hv⟩,e,List.set_cons_succ]
 ·rw [if_neg (fun k=>hv k.2),if_neg (fun k=>hv k.2)];rfl
theorem Enc.grow {f:Nat→Int}{lo hi:Nat}{I:List Im}(h:Enc f lo I hi){id:Int}(hid:id=(hi+1:Nat)):Enc f lo (b0n I id (f hi)) (hi+1):=by
 induction h with
 | @nil lo=>exact .cons (mid:=lo+1) hid (by omega) (fun k h1 h2=>by (have e:k=lo:=by omega);subst e;rfl) .nil
 | @cons lo mid hi x I h1 h2 h3 h4 ih =>
  cases h4 with
  | nil =>
   have g:gt [x] ([x].length-1)=x:=rfl
   unfold b0n
   rw [g]
   by_cases hv:x.ver=f mid
   ·rw [if_pos ⟨by simp,hv⟩]
    refine .cons (mid:=mid+1) hid (by omega) (fun k k1 k2=>?_) .nil
    by_cases e:k=mid
    ·subst e;rfl
    ·rw [h3 k k1 (by omega),hv]
   ·rw [if_neg (fun k=>hv k.2)]
    exact .cons h1 h2 h3 (.cons (mid:=mid+1) hid (by omega) (fun k h1 h2=>by (have e:k=mid:=by omega);subst e;rfl) .nil)
  | cons a1 a2 a3 a4 =>
   rw [w0j (by simp)]
   exact .cons h1 h2 h3 (ih hid)
theorem Enc.of {f:Nat→Int}:∀ {vs:List Int} {i:Nat} {acc:List Im},Enc f 0 acc i→(∀ k,k<vs.length→gt vs k=f (i+k))→Enc f 0 (ofA 1 i vs acc) (i+vs.length)
 | [],i,acc,h,_=>h
 | v :: vs,i,acc,h,hv=>by
  rw [ofA,show i+(v :: vs).length=(i+1)+vs.length by simp;omega]
  have h0:v=f i:=hv 0 (by simp)
  rw [h0]
  refine Enc.of (h.grow (by omega)) fun k hk=>?_
  have:=hv (k+1) (by simp;omega)
  rw [show i+1+k=i+(k+1) by omega,←this]
  simp [gt]
theorem s0Z {l:List Ev}(h:BrOk l):Enc (fun k=>(gt l k).ver) 0 (ofL l) l.length:=by
 unfold ofL
 by_cases hn:l=[]
 ·subst hn;exact .nil
 ·rw [if_neg hn,h.id0 hn]
  have:=Enc.of (f:=fun k=>(gt l k).ver) (vs:=l.map (·.ver)) (i:=0) (acc:=[]) .nil fun k hk=>by
   rw [List.length_map] at hk
   rw [Nat.zero_add,b0P (by rw [List.length_map];exact hk),List.getElem_map,←b0P hk]
  rw [Nat.zero_add,List.length_map] at this
  exact this
def comA:List Im→List Im→Im→Im
 | x :: a,y :: b,out=>if x.ver=y.ver then (if x.id=y.id then comA a b ⟨min x.id y.id,x.ver⟩ else ⟨min x.id y.id,x.ver⟩) else out
 | [],_,out=>out
 | _ :: _,[],out=>out
def comL (a b:List Im):Im:=comA a b ⟨0,0⟩
theorem f1D {f g:Nat→Int}{lo hi:Nat}{I:List Im}(h:Enc f lo I hi):∀ {J:List Im} {hj:Nat} {out:Im},Enc g lo J hj→out.id=lo→(∀ k,k<lo→f k=g k)→∃ n:Nat,(comA I J out).id=n∧n≤hi∧n≤hj∧∀ k,k<n→f k=g k:=by
 induction h with
 | @nil lo =>
  intro J hj out hJ ho hk
  have:=hJ.le
  exact ⟨lo,by cases J<;>exact ho,Nat.le_refl _,this,hk⟩
 | @cons lo mid hi x I h1 h2 h3 h4 ih =>
  intro J hj out hJ ho hk
  have hl:=h4.le
  have hJl:=hJ.le
  cases hJ with
  | nil=>exact ⟨lo,ho,by omega,Nat.le_refl _,hk⟩
  | @cons _ md _ y J k1 k2 k3 k4 =>
   have hl2:=k4.le
   rw [comA]
   by_cases hv:x.ver=y.ver
   ·rw [if_pos hv]
    have hag:∀ k,k<min mid md→f k=g k:=fun k h=>by
     by_cases e:k<lo
     ·exact hk k e
     ·rw [h3 k (by omega) (by omega),k3 k (by omega) (by omega),hv]
    by_cases hi2:x.id=y.id
    ·rw [if_pos hi2]
     have e:mid=md:=by omega
     subst e
     exact ih k4 (by dsimp only;omega) fun k hk2=>hag k (by omega)
    ·rw [if_neg hi2]
     exact ⟨min mid md,by dsimp only;omega,by omega,by omega,hag⟩
   ·rw [if_neg hv]
    exact ⟨lo,ho,by omega,by omega,hk⟩
theorem e1i {a b:List Ev}(ha:BrOk a)(hb:BrOk b):∃ n:Nat,(comL (ofL a) (ofL b)).id=n∧n≤a.length∧n≤b.length∧∀ k,k<n→(gt a k).ver=(gt b k).ver :=
 f1D (s0Z ha) (s0Z hb) rfl fun k h=>by omega
theorem l0Z:∀ {n:Nat} {a b:List Ev},n≤a.length→n≤b.length→a.take n=b.take n→n≤b0A a b
 | 0,_,_,_,_,_=>Nat.zero_le _
 | n+1,[],b,h,_,_=>by simp at h
 | n+1,a :: l,[],_,h,_=>by simp at h
 | n+1,a :: l,b :: m,h1,h2,h=>by
  rw [List.take_succ_cons,List.take_succ_cons,List.cons.injEq] at h
  rw [b0A,if_pos (f0p h.1)]
  have:=l0Z (n:=n) (a:=l) (b:=m) (by simpa using h1) (by simpa using h2) h.2
  omega
theorem Uni.apart {U:List Ev→Prop}(hu:Uni U){a b:List Ev}(ha:U a)(hb:U b)(hn:¬ a <+: b)(hm:¬ b <+: a)(hv:a0W b<a0W a) :
  ∃ n:Nat,(comL (ofL a) (ofL b)).id=n∧n<a.length∧n<b.length∧n≤b0A a b∧0<cmpI (ofL a) (ofL b):=by
 obtain ⟨a1,a2⟩:=hu.ok ha
 obtain ⟨b1,b2⟩:=hu.ok hb
 obtain ⟨n,h1,h2,h3,h4⟩:=e1i a1 b1
 have he:a.take n=b.take n:=by
  by_cases h0:n=0
  ·subst h0;simp
  ·have hp:=hu.down ha (List.take_prefix n a) (h0m (by omega) h2)
   have hq:=hu.down hb (List.take_prefix n b) (h0m (by omega) h3)
   have e:a0W (a.take n)=a0W (b.take n):=by rw [d0M (by omega) h2,d0M (by omega) h3,h4 _ (by omega)]
   have hl:(a.take n).length=(b.take n).length:=by rw [List.length_take,List.length_take];omega
   exact (hu.comp hp hq e).elim (fun h=>h.eq_of_length hl) fun h=>(h.eq_of_length hl.symm).symm
 refine ⟨n,h1,?_,?_,l0Z h2 h3 he,(n0j a2 b2 (by omega)).2 hv⟩
 ·refine Nat.lt_of_le_of_ne h2 fun e=>hn ?_
  rw [e,List.take_length] at he
  rw [he];exact List.take_prefix _ _
 ·refine Nat.lt_of_le_of_ne h3 fun e=>hm ?_
  rw [e,List.take_length] at he
  rw [←he];exact List.take_prefix _ _
theorem TrU.at {U:List Ev→Prop}{t:Br}(ht:TrU U t){i j:Nat}(h:i<j)(hj:j<t.length):U (gt t i)∧U (gt t j)∧a0W (gt t j)<a0W (gt t i)∧¬ gt t i <+: gt t j∧¬ gt t j <+: gt t i:=by
 have hv:a0W (gt t j)<a0W (gt t i):=by
  have:=List.pairwise_iff_getElem.1 ht.lt i j (by omega) hj h
  rw [b0P hj,b0P (show i<t.length by omega)];exact this
 have hi:=a0K (l:=t) (k:=i) (by omega)
 have hj:=a0K hj
 refine ⟨ht.mem _ hi,ht.mem _ hj,hv,fun e=>?_,fun e=>?_⟩
 ·have:=ht.anti _ hi _ hj e
  rw [this] at hv;omega
 ·have:=ht.anti _ hj _ hi e
  rw [this] at hv;omega
theorem x0t {L:Br}(hu:Uni (Bg L)){t:Br}(ht:TrU (Bg L) t){b:List Ev}(hb:b∈L)(h8:t.length<8):TrU (Bg L) (e0d t b)∧(b≠[]→e0d t b=addU t b):=by
 unfold e0d
 by_cases hz:b.length=0
 ·rw [if_pos hz]
  exact ⟨ht,fun h=>absurd (List.eq_nil_of_length_eq_zero hz) h⟩
 ·have hne:b≠[]:=fun e=>hz (by rw [e];rfl)
  have hx:Bg L b:=⟨hne,b,hb,List.prefix_refl b⟩
  rw [if_neg hz,b1j hu ht hx h8]
  exact ⟨e1H hu ht hx,fun _=>rfl⟩
theorem p0F {L:Br}(hu:Uni (Bg L))(h8:L.length<8):∀ {M:Br} {t:Br},(∀ b∈M,b∈L)→TrU (Bg L) t→TrU (Bg L) (M.foldl e0d t)
 | [],t,_,ht=>ht
 | b :: M,t,hm,ht=>p0F hu h8 (M:=M) (fun x hx=>hm x (by simp [hx])) (x0t hu ht (hm b (by simp)) (Nat.lt_of_le_of_lt ht.few h8)).1
theorem b1D (s:List (List Rw))(a:List Int)(d:List Rd):TrU (Bg (a0x s a d)) (s0e s a d) :=
 p0F (n0n s a d) (Nat.lt_of_le_of_lt (d0l s a d).2 (by decide)) (fun b h=>h) TrU.nil
theorem c1U {b:List Im}{out:Im}:comA [] b out=out:=by cases b<;>rfl
theorem y0a {a:List Im}{out:Im}:comA a [] out=out:=by cases a<;>rfl
set_option maxRecDepth 100000 in
theorem t0I (a b:List Im)(ha:a.length≤1000000)(hb:b.length≤1000000):Con Tryz.prog 88 [.f (fIm a),.f (fIm b)] [] fun r H'=>r = .ag [D.int (comL a b).id,D.int (comL a b).ver]∧H'=[]:=by
 refine Con.walk good p0G (by simp) ?_
 unfold j0P
 simp only [a0I]
 have hmn:min (a.length:Int) b.length=((min a.length b.length:Nat):Int):=by omega
 repeat' (with_reducible first|refine Wx.h ?_|refine Wb.h fun K hK=>?_|(refine hK _ ?_;clear hK K)|((fail_if_success refine Wz.h ?_);simp (disch:=omega) only [↓LD,LA,a0A,seval,LIm,hmn]))
 refine HS.loopG [0,1,4,5,12,13] (fun x:Nat × Im=>⟨frm 57 [(0,.f (fIm a)),(1,.f (fIm b)),(4,.pt 0 0),(5,.pt 1 0),(12,D.int (min a.length b.length:Nat)),(13,D.int x.1)],[.box 57 [jI,jI],.box 57 [D.int x.2.id,D.int x.2.ver]],[]⟩) (fun x=>x.1≤min a.length b.length∧comL a b=comA (a.drop x.1) (b.drop x.1) x.2) (fun x=>min a.length b.length-x.1) (0,⟨0,0⟩) (by kernel_rfl) ⟨Nat.zero_le _,rfl⟩ ?_
 rintro ⟨i,o⟩ ⟨hi,hC⟩
 dsimp only at hi hC
 have fin:∀ y:Im,comL a b=y→(D.ag [D.int y.id,D.int y.ver] = .ag [D.int (comL a b).id,D.int (comL a b).ver]∧([]:List Row)=[]):=fun y h=>⟨by rw [h],rfl⟩
 by_cases hil:i<min a.length b.length
 rotate_left
 ·have hE:comL a b=o:=by
   rw [hC]
   by_cases h1:a.length≤i
   ·rw [List.drop_of_length_le h1,c1U]
   ·rw [List.drop_of_length_le (l:=b) (by omega),y0a]
  repeat' (with_reducible first|refine Wx.h ?_|refine Wb.h fun K hK=>?_|(refine hK _ ?_;clear hK K)|refine Wq.h ?_ ?_<;>intro h<;>try (exfalso;omega)|((fail_if_success refine Wz.h ?_);simp (disch:=omega) only [↓LD,LA,a0A,seval,LIm]))
  exact RetS.still (ds:=[.ag [D.int o.id,D.int o.ver]]) (by kernel_rfl) (by kernel_rfl) (.ags (.cons .f (.cons .f .nil))) (fin o hE)
 have h1:i<a.length:=by omega
 have h2:i<b.length:=by omega
 rw [a0G h1,a0G h2,comA] at hC
 have a0:=y0Q h1
 have a1:=e0D h1
 have b0:=y0Q h2
 have b1:=e0D h2
 have hm1:min (gt a i).id (gt b i).id=min (gt a i).id (gt b i).id:=rfl
 generalize gt a i=x at *
 generalize gt b i=y at *
 by_cases hv:x.ver=y.ver
 ·rw [if_pos hv] at hC
  by_cases hd:x.id=y.id
  ·rw [if_pos hd] at hC
   repeat' (with_reducible first|refine Wx.h ?_|refine We.h fun K hK=>?_|(refine hK _ _ _ _ ?_;clear hK K;try clear hM M)|refine Wb.h fun K hK=>?_|(refine hK _ ?_;clear hK K)|(refine Wy.h ?_ ?_;kernel_rfl)|refine Wq.h ?_ ?_<;>intro h<;>try (exfalso;omega)|((fail_if_success refine Wz.h ?_);first|simp (disch:=omega) only [↓LD,LA,a0A,seval,LIm,b0p,a0,a1,b0,b1,Im.cs,hv,hd]|(refine And.intro ?_ ?_;omega)|fail))
   all_goals exact Next.mk (i+1,⟨min y.id y.id,y.ver⟩) (by kernel_rfl) ⟨by dsimp only;omega,by dsimp only;rw [hC,hd,hv]⟩ (by dsimp only;omega)
  ·rw [if_neg hd] at hC
   repeat' (with_reducible first|refine Wx.h ?_|refine We.h fun K hK=>?_|(refine hK _ _ _ _ ?_;clear hK K;try clear hM M)|refine Wb.h fun K hK=>?_|(refine hK _ ?_;clear hK K)|(refine wF ?_ ?_;assumption)|(refine Wy.h ?_ ?_;kernel_rfl)|refine Wq.h ?_ ?_<;>intro h<;>try (exfalso;omega)|((fail_if_success refine Wz.h ?_);first|simp (disch:=omega) only [↓LD,LA,a0A,seval,LIm,b0p,a0,a1,b0,b1,Im.cs,hv]|(refine And.intro ?_ ?_;omega)|fail))
   all_goals exact RetS.still (ds:=[.ag [D.int (min x.id y.id),D.int y.ver]]) (by kernel_rfl) (by kernel_rfl) (.ags (.cons .f (.cons .f .nil))) (fin ⟨min x.id y.id,y.ver⟩ (by rw [hC,hv]))
 ·rw [if_neg hv] at hC
  repeat' (with_reducible first|refine Wx.h ?_|refine We.h fun K hK=>?_|(refine hK _ _ _ _ ?_;clear hK K;try clear hM M)|refine Wb.h fun K hK=>?_|(refine hK _ ?_;clear hK K)|(refine wF ?_ ?_;assumption)|(refine Wy.h ?_ ?_;kernel_rfl)|refine Wq.h ?_ ?_<;>intro h<;>try (exfalso;omega)|((fail_if_success refine Wz.h ?_);first|simp (disch:=omega) only [↓LD,LA,a0A,seval,LIm,b0p,a0,a1,b0,b1,Im.cs]|(refine And.intro ?_ ?_;omega)|fail))
  all_goals exact RetS.still (ds:=[.ag [D.int o.id,D.int o.ver]]) (by kernel_rfl) (by kernel_rfl) (.ags (.cons .f (.cons .f .nil))) (fin o hC)
instance {a b:List Im}{H:List Row}{K:D→List Row→Prop}[ha:Kn (a.length≤1000000)][hb:Kn (b.length≤1000000)]:Wa (a0P Tryz.prog (.fn 88 []) [.f (fIm a),.f (fIm b)] H K) (K (.ag [.f (.v (.int .i64 (comL a b).id)),.f (.v (.int .i64 (comL a b).ver))]) H):=⟨fun h=>a0C (t0I a b ha.h hb.h) rfl rfl rfl h⟩
structure Apt (a b:List Ev):Prop where
 ka:BrOk a∧a≠[]
 kb:BrOk b∧b≠[]
 kv:a0W a≠a0W b
 kn:∃ n:Nat,(comL (ofL a) (ofL b)).id=n∧n<a.length∧n<b.length∧n≤b0A a b∧0<cmpI (ofL a) (ofL b)
instance tqV {l:List Ev}{H:List Row}{K:D→List Row→Prop}[hl:Kn (IdL l)][hk:Kn ((ofL l).length≤1000000)]:Wa (a0P Tryz.prog (.fn 78 []) [.f (fEv l)] H K) (K (.f (.v (.int .i64 (a0i (ofL l)).ver))) H):=⟨fun h=>a0C (q0C l hl.h hk.h) rfl rfl rfl h⟩
set_option maxRecDepth 100000 in
theorem x0h (a b:List Ev)(h:Apt a b):Con Tryz.prog 53 [.f (fEv a),.f (fEv b)] [] fun r H'=>r=D.bool true∧H'=[]:=by
 obtain ⟨⟨a1,a2⟩,⟨b1,b2⟩,hv,n,h1,h2,h3,h4,h5⟩:=h
 haveI:Kn (IdL a):=⟨a1.idL⟩
 haveI:Kn (IdL b):=⟨b1.idL⟩
 haveI:Kn (FitL a):=⟨a1.fitL⟩
 haveI:Kn (FitL b):=⟨b1.fitL⟩
 haveI:Kn ((ofL a).length≤1000000):=⟨a1.ofK⟩
 haveI:Kn ((ofL b).length≤1000000):=⟨b1.ofK⟩
 have e1:(a0i (ofL a)).ver=a0W a:=by rw [c0E a2]
 have e2:(a0i (ofL b)).ver=a0W b:=by rw [c0E b2]
 refine Con.walk good s0U (by simp) ?_
 unfold l0b
 simp only [a0I]
 repeat' (with_reducible first|refine Wx.h ?_|refine Wb.h fun K hK=>?_|(refine hK _ ?_;clear hK K)|(refine wT ?_ ?_;assumption)|(refine wF ?_ ?_;assumption)|refine Wq.h ?_ ?_<;>intro h<;>try (exfalso;omega)|((fail_if_success refine Wz.h ?_);simp (disch:=omega) only [↓LD,LA,a0A,seval,LEv,h1,e1,e2]))
 all_goals exact end1 rfl rfl (by kernel_rfl) .f ⟨rfl,rfl⟩
instance {a b:List Ev}{H:List Row}{K:D→List Row→Prop}[h:Kn (Apt a b)]:Wa (a0P Tryz.prog (.fn 53 []) [.f (fEv a),.f (fEv b)] H K) (K (.f (.v (.bool true))) H):=⟨fun k=>a0C (x0h a b h.h) rfl rfl rfl k⟩
theorem TrU.apt {U:List Ev→Prop}(hu:Uni U){t:Br}(ht:TrU U t){i j:Nat}(h:i<j)(hj:j<t.length):Apt (gt t i) (gt t j):=by
 obtain ⟨h1,h2,h3,h4,h5⟩:=ht.at h hj
 exact ⟨hu.ok h1,hu.ok h2,by omega,hu.apart h1 h2 h4 h5 h3⟩
set_option maxRecDepth 100000 in
theorem w0s {U:List Ev→Prop}(hu:Uni U)(t:Br)(ht:TrU U t)(hl:t.length≤8):Con Tryz.prog 20 [.ag [.f (fBr t)]] [] fun r H'=>r=D.bool true∧H'=[]:=by
 refine Con.walk good s0X (by simp) ?_
 unfold m0o
 simp only [a0I]
 repeat' (with_reducible first|refine Wx.h ?_|refine Wb.h fun K hK=>?_|(refine hK _ ?_;clear hK K)|refine Wq.h ?_ ?_<;>intro h<;>try (exfalso;omega)|((fail_if_success refine Wz.h ?_);simp (disch:=omega) only [↓LD,LA,a0A,seval,LBr]))
 refine HS.loopG [1,14,15,16] (fun i:Nat=>⟨frm 48 [(1,.pt 0 0),(14,.f (fBr t)),(15,D.int t.length),(16,D.int i)],[.box 30 [.f (fBr t)]],[]⟩) (fun i=>i≤t.length) (fun i=>t.length-i) 0 (by kernel_rfl) (Nat.zero_le _) ?_
 rintro i hi
 by_cases hil:i<t.length
 ·obtain ⟨ok,ne⟩:=hu.ok (ht.mem _ (a0K hil))
  have hap:=fun j (h:j<i)=>ht.apt hu h hil
  have hfo:=ok.fold
  have hln:=ok.len
  haveI:Kn (FitL (gt t i)):=⟨ok.fitL⟩
  have h0:¬ ((gt t i).length:Int)=0:=fun e=>ne (List.eq_nil_of_length_eq_zero (by omega))
  have hs:∀ H:List Row,subS H 1 25 (.f (fBr t)) 0 i=some (.f (fBr (t.take i))):=fun H=>u0M hi
  have hAl:(t.take i).length=i:=by rw [List.length_take];omega
  have hA:∀ j,j<i→gt (t.take i) j=gt t j:=fun j hj=>by rw [b0P (by omega),b0P (by omega),List.getElem_take]
  generalize hgl:gt t i=l at *
  generalize t.take i=A at *
  repeat' (with_reducible first|refine Wx.h ?_|refine Wb.h fun K hK=>?_|(refine hK _ ?_;clear hK K)|(refine wF ?_ ?_;assumption)|refine Wq.h ?_ ?_<;>intro h<;>try (exfalso;omega)|((fail_if_success refine Wz.h ?_);first|simp (disch:=omega) only [↓LD,LA,a0A,seval,LBr,LEv,hs,hfo,hgl,stF]|(refine And.intro ?_ ?_;omega)|fail))
  refine HS.loopG [1,4,14,15,16,36,37,38] (fun j:Nat=>⟨frm 48 [(1,.pt 0 0),(4,.f (fEv l)),(14,.f (fBr t)),(15,D.int t.length),(16,D.int i),(36,.f (fBr A)),(37,D.int A.length),(38,D.int j)],[.box 30 [.f (fBr t)]],[]⟩) (fun j=>j≤A.length) (fun j=>A.length-j) 0 (by kernel_rfl) (Nat.zero_le _) ?_
  rintro j hj
  by_cases hjl:j<A.length
  ·haveI:=Kn.mk (hap j (by omega))
   have hgA:=hA j (by omega)
   repeat' (with_reducible first|refine Wx.h ?_|refine Wb.h fun K hK=>?_|(refine hK _ ?_;clear hK K)|refine Wq.h ?_ ?_<;>intro h<;>try (exfalso;omega)|((fail_if_success refine Wz.h ?_);first|simp (disch:=omega) only [↓LD,LA,a0A,seval,LBr,LEv,hgA]|(refine And.intro ?_ ?_;omega)|fail))
   all_goals exact Next.mk (j+1) (by kernel_rfl) (by omega) (by omega)
  ·repeat' (with_reducible first|refine Wx.h ?_|refine Wb.h fun K hK=>?_|(refine hK _ ?_;clear hK K)|refine Wq.h ?_ ?_<;>intro h<;>try (exfalso;omega)|((fail_if_success refine Wz.h ?_);simp (disch:=omega) only [↓LD,LA,a0A,seval,LBr,LEv]))
   all_goals exact Next.mk (i+1) (by kernel_rfl) (by omega) (by omega)
 ·repeat' (with_reducible first|refine Wx.h ?_|refine Wb.h fun K hK=>?_|(refine hK _ ?_;clear hK K)|refine Wq.h ?_ ?_<;>intro h<;>try (exfalso;omega)|((fail_if_success refine Wz.h ?_);simp (disch:=omega) only [↓LD,LA,a0A,seval,LBr]))
  exact end1 rfl rfl (by kernel_rfl) .f ⟨rfl,rfl⟩
theorem z0p {s:List (List Rw)}{a:List Int}{d:List Rd}:∀ {f i:Nat} {out:Br} {v:Int},out.length=i→(∀ b∈out,BrOk b)→(∀ b∈out,∀ e∈b,e.ver≤700*i)→0≤v→v≤700*i→∀ b∈brA s a d f i out v,∀ e∈b,e.ver≤700*(i+f:Nat)
 | 0,i,out,v,ho,hb,hl,h0,hv=>fun b h e he=>by have:=hl b h e he;omega
 | f+1,i,out,v,ho,hb,hl,h0,hv=>by
  rw [brA]
  split
  ·have hbi:=t0c (s:=s) (a:=a) (d:=d) (v:=v) ho hb
   have hlow:∀ e∈brI s a d i out v,e.ver≤700*((i+1:Nat):Int):=by
    unfold brI
    split
    ·rename_i hi
     obtain ⟨w,hw,h1⟩:=j0N (steps:=gt s 0) (defs:=d) BrOk.nil
     rw [if_pos (show ([]:List Ev).length=0 from rfl)] at h1
     rw [hw]
     intro e he
     have:=(h1 e (by simpa using he)).2
     omega
    ·rename_i hi
     have pk:=b0N (x:=IntKind.i64.wrap (i*7+a.length)) (n:=out.length) (by omega)
     have hgm:gt out (pick (IntKind.i64.wrap (i*7+a.length)) out.length).toNat∈out:=a0K (by omega)
     generalize gt out (pick (IntKind.i64.wrap (i*7+a.length)) out.length).toNat=l0 at *
     have hvv:=n0o v (IntKind.i64.wrap (1+(i:Int).tmod 2))
     unfold o0F
     generalize (pick (if i<a.length then gt a i else 0) (l0.length+1)).toNat=c
     obtain ⟨w,hw,h1⟩:=p0i (hd:=l0.take c) (at':=if i<a.length then gt a i else 0) (v:=verL v (IntKind.i64.wrap (1+(i:Int).tmod 2))) (steps:=gt s i) (defs:=d) ((hb l0 hgm).take c)
     rw [hw]
     intro e he
     rcases List.mem_append.1 he with he|he
     ·have:=hl l0 hgm e (List.mem_of_mem_take he)
      omega
     ·have:=(h1 e he).2
      omega
   have hstep:=z0p (s:=s) (a:=a) (d:=d) (f:=f) (i:=i+1) (out:=out++[brI s a d i out v]) (v:=brV v (brI s a d i out v)) (by simp [ho]) (fun b h=>by
    rcases List.mem_append.1 h with h|h
    ·exact hb b h
    ·rw [List.mem_singleton.1 h];exact hbi) (fun b h e he=>by
    rcases List.mem_append.1 h with h|h
    ·have:=hl b h e he;omega
    ·rw [List.mem_singleton.1 h] at he;exact hlow e he) (by unfold brV;split<;>omega) (by
    unfold brV
    split
    ·have:=hlow _ (a0K (l:=brI s a d i out v) (k:=(brI s a d i out v).length-1) (by omega))
     omega
    ·omega)
   intro b h e he
   have:=hstep b h e he
   omega
  ·intro b h e he
   have:=hl b h e he
   omega
theorem b1X (s:List (List Rw))(a:List Int)(d:List Rd):∀ b∈a0x s a d,∀ e∈b,e.ver≤3500:=by
 have:=z0p (s:=s) (a:=a) (d:=d) (f:=5) (i:=0) (out:=[]) (v:=0) rfl (fun b h=>by simp at h) (fun b h=>by simp at h) (by omega) (by omega)
 intro b h e he
 have:=this b h e he
 omega
theorem Enc.item {f:Nat→Int}{lo hi:Nat}{I:List Im}(h:Enc f lo I hi):∀ x∈I,∃ k,k<hi∧f k=x.ver:=by
 induction h with
 | nil=>exact fun x h=>by simp at h
 | @cons lo mid hi x I h1 h2 h3 h4 ih =>
  intro y hy
  rcases List.mem_cons.1 hy with rfl|hy
  ·exact ⟨lo,by have:=h4.le;omega,h3 lo (Nat.le_refl _) h2⟩
  ·exact ih y hy
theorem o0B {l:List Ev}(h:BrOk l):∀ x∈ofL l,∃ e∈l,e.ver=x.ver:=fun x hx=>by
 obtain ⟨k,h1,h2⟩:=(s0Z h).item x hx
 exact ⟨gt l k,a0K h1,h2⟩
theorem t0P {t:Br}{l:List Ev}{k:Nat}(ht:∀ b∈t,BrOk b∧∀ e∈b,e.ver≤3500)(hl:BrOk l)(hk:k<(ofL l).length):d0n t ((ofL l).set k ⟨(gt (ofL l) k).id,(gt (ofL l) k).ver+4000000⟩)=none:=by
 have h1:1≤(gt (ofL l) k).ver:=by
  obtain ⟨e,he,h⟩:=o0B hl _ (a0K hk)
  rw [←h];exact hl.ver0 he
 unfold d0n
 rw [if_neg (by rw [List.length_set];omega)]
 rw [Option.map_eq_none_iff,List.find?_eq_none]
 intro b hb hf
 unfold e0b at hf
 rw [Bool.and_eq_true] at hf
 have he:=n0s hf.2
 have hm:(⟨(gt (ofL l) k).id,(gt (ofL l) k).ver+4000000⟩:Im)∈(ofL l).set k ⟨(gt (ofL l) k).id,(gt (ofL l) k).ver+4000000⟩:=List.mem_set hk _
 rw [←he] at hm
 obtain ⟨e,h3,h4⟩:=o0B ((ht b hb).1.take _) _ hm
 have h5:=(ht b hb).2 e (List.mem_of_mem_take h3)
 dsimp only at h4
 omega
theorem TrU.low {s:List (List Rw)}{a:List Int}{d:List Rd}{t:Br}(ht:TrU (Bg (a0x s a d)) t):∀ b∈t,BrOk b∧∀ e∈b,e.ver≤3500:=fun b hb=>by
 obtain ⟨h1,l,h2,h3⟩:=ht.mem b hb
 exact ⟨((n0n s a d).ok (ht.mem b hb)).1,fun e he=>b1X s a d l h2 e (h3.subset he)⟩
theorem c1F:t0p (runF Tryz.prog g1A 60 10 [] [])=true:=by kernel_rfl
theorem x0T:Con Tryz.prog 10 [] [] fun r H'=>r=D.bool true∧H'=[] :=
 (Con.run good (b1k _) (g1H (by kernel_rfl)) (o0l (by rw [←e1z];exact c1F))).mono fun _ _ h=>h
instance kn13_callW {H:List Row}{K:D→List Row→Prop}:Wa (a0P Tryz.prog (.fn 10 []) [] H K) (K (.f (.v (.bool true))) H):=⟨fun h=>a0C x0T rfl rfl rfl h⟩
def e0F:SCode :=
  (jq ([.a 4 (.box 48 (.t 0)),.a 8 (.mv kF)]) (jq ((ap [jL 19 3 4,.a 20 (.call (kC 19) [(.t 19)])] [.a 21 (.fld1 0 (.t 20)),.a 22 (.bld [jN] [(0,1,
 (.t 21))]),.a 9 (.alloc 30 [jN]),.n (.store 1 (.t 9) (.t 22))])) (.seq (jq ((ap [.a 23 (.call (kC 10) [])] (ap [.a 24 (.unot (.t 23)),jm 25 24,jG
 26 (.loadA 1 (.t 9)) 25 false] (ap [jG 27 (.call (kC 20) [(.t 26)]) 25 false] [jG 28 (.unot (.t 27)) 25 false,.a 29 (.pick (.t 25) kT (.t 28))]))))
 (jc 29 (jq ([.a 8 (.mv kF)]) .ret) .skip)) (.seq (jq ([jo 30 0 9,jl 31 30,je 32 31,jb 33 .eql 32 0]) (jc 33 (jq ((ap [jL 35 1 9,.a 36 (.call (kC
 21) [(.t 35),kN])] [jm 34 36,jE 37 0 34,jE 38 1 34,jm 10 37,jm 11 38])) (jq ((ap [jm 39 11,jm 40 39,gM 41 10 40 true] (ap [jG 42 (.slen (.t 41))
 40 true,jG 43 (.bin .eql (.t 42) (kI 0)) 40 true] [.a 44 (.pick (.t 40) (.t 43) kF),jm 8 44]))) .ret)) .skip)) (.seq (.drw [jo 45 0 9,jl 46 45,jm
 47 1,jo 48 0 9,jl 49 48,je 50 49,.a 51 (.call (kC 13) [(.t 47),(.t 50)]),jx 52 1 46 51,jl 53 52,jm 12 53] [0,1,0,0,8,24,60,127,255,
 511]) (jq ((ap [jm 54 2,jm 55 12,je 56 55,jb 57 .add 56 1,.a 58 (.call (kC 13) [(.t 54),(.t 57)])] [jm 13 58])) (.seq (.drw [jL 60 1 9,jm 61 12,
 jm 62 13,.a 63 (.sub 9 73 (.t 61) none (some (.t 62)) none),.a 64 (.call (kC 22) [(.t 63)]),.a 65 (.call (kC 21) [(.t 60),(.t 64)]),jm 59 65,jE
 66 0 59,jE 67 1 59,jm 14 66,jm 15 67] [0,0,0,6,14,31,63,127,127,255,1023]) (.seq (jq ((ap [jm 68 15,.a 69 (.unot (.t 68)),jm 70 69,gM
 71 14 70 false] (ap [gM 72 12 70 false,gM 73 13 70 false,jG 74 (.sub 9 73 (.t 72) none (some (.t 73)) none) 70 false,jG 75 (.call (kC 17) [(.t 71),
 (.t 74)]) 70 false] [jG 76 (.unot (.t 75)) 70 false,.a 77 (.pick (.t 70) kT (.t 76))]))) (jc 77 (jq ([.a 8 (.mv kF)]) .ret) .skip)) (.seq (jq ([jm 78
 13,jb 79 .eql 78 0]) (jc 79 (jq ([.a 8 (.mv kT)]) .ret) .skip)) (jq ((ap [.a 80 (.bsl 57 2 0 [] []),jm 81 12,jm 82 13,.a 83 (.sub 9 73 (.t 81) none
 (some (.t 82)) none),.a 84 (.call (kC 22) [(.t 83)])] (ap [.a 85 (.app 57 2 16 (.t 80) (.t 84))] [jm 16 85]))) (jq ((ap [jm 86 16,jm 87 3,jm 88 16,
 je 89 88,.a 90 (.call (kC 13) [(.t 87),(.t 89)])] [jx 91 2 86 90,jo 92 1 91,jl 93 92,jb 94 .add 93 4000000,jx 95 2 86 90,jo 96 1 95,.n (.store
 1 (.t 96) (.t 94))])) (jq ((ap [jL 98 1 9,jm 99 16,.a 100 (.call (kC 21) [(.t 98),(.t 99)])] [jm 97 100,jE 101 0 97,jE 102 1 97,jm 17 101,jm 18
 102])) (jq ([jm 103 18,.a 104 (.unot (.t 103)),jm 8 104]) .ret)))))))))))))
theorem h0S:Fn Tryz.prog 4 105 [.t 8] e0F:=.of Tryz.func4 (by kernel_rfl)
theorem x0U {H:List Row}{g:List Im}{sz:Nat}:b0S H sz (.f (fIm g))=some (g.length,g.flatMap Im.cs):=id rfl
theorem z0e:∀ {l:List Im} {k:Nat} {a:Int},k<l.length→(l.flatMap Im.cs).set (k*2+1) (.v (.int .i64 a))=(l.set k ⟨(gt l k).id,a⟩).flatMap Im.cs
 | x :: l,0,a,_=>by simp [Im.cs,gt]
 | x :: l,k+1,a,h=>by
  have ih:=z0e (l:=l) (k:=k) (a:=a) (by simpa using h)
  have g:gt (x :: l) (k+1)=gt l k:=by simp [gt]
  rw [g,List.set_cons_succ,List.flatMap_cons,List.flatMap_cons,←ih,show (k+1)*2+1=(k*2+1)+2 by omega]
  rfl
noncomputable def g0J (t:Br)(pre:List Im):List Ev × Bool:=match d0n t pre with
 | none=>([],false)
 | some hd=>(hd,true)
theorem l0U (t:Br)(pre:List Im)(ht:TrK t)(hp:pre.length≤1000000):Con Tryz.prog 21 [.ag [.f (fBr t)],.f (fIm pre)] [] fun r H'=>r = .tp [.f (fEv (g0J t pre).1),D.bool (g0J t pre).2]∧H'=[] :=
 (w0b t pre ht hp).vw fun d H' h=>by
  refine ⟨_,?_,rfl,rfl⟩
  unfold g0J
  cases hf:d0n t pre with
  | none =>
   rw [hf] at h
   rw [h.1,h.2]
   exact .tps (.cons .nil (.cons .f .nil))
  | some hd =>
   rw [hf] at h
   rw [h.1,h.2]
   exact .tps (.cons (y0X rfl rfl rfl) (.cons .f .nil))
instance {t:Br}{pre:List Im}{H:List Row}{K:D→List Row→Prop}[ht:Kn (TrK t)][hp:Kn (pre.length≤1000000)]:Wa (a0P Tryz.prog (.fn 21 []) [.ag [.f (fBr t)],.f (fIm pre)] H K) (K (.tp [.f (fEv (g0J t pre).1),.f (.v (.bool (g0J t pre).2))]) H):=⟨fun h=>a0C (l0U t pre ht.h hp.h) rfl rfl rfl h⟩
instance {t:Br}{H:List Row}{K:D→List Row→Prop}[h:Kn (t.length≤8∧∃ U,Uni U∧TrU U t)]:Wa (a0P Tryz.prog (.fn 20 []) [.ag [.f (fBr t)]] H K) (K (.f (.v (.bool true))) H):=⟨fun k=>by
 obtain ⟨h8,U,hu,ht⟩:=h.h
 exact a0C (w0s hu t ht h8) rfl rfl rfl k⟩
instance {t:Br}{pre:List Im}{H:List Row}{K:Bool→D→List Row→Prop}[ht:Kn (TrK t)][hp:Kn (pre.length≤1000000)]:Wa (a0k Tryz.prog (.fn 21 []) [.ag [.f (fBr t)],.f (fIm pre)] H K) (K true (.tp [.f (fEv (g0J t pre).1),.f (.v (.bool (g0J t pre).2))]) H):=⟨fun h=>a0M (l0U t pre ht.h hp.h) rfl rfl rfl h⟩
theorem z0R {L:Br}(hu:Uni (Bg L)){t:Br}(ht:TrU (Bg L) t){b:List Ev}(hb:b∈t)(c:Nat):g0J t (ofL (b.take c))=(b.take c,true):=by
 have hf:d0n t (ofL (b.take c))=some (b.take c):=by
  by_cases hn:b.take c=[]
  ·rw [hn]
   unfold d0n ofL;rw [if_pos rfl];rfl
  ·have hh:Bg L (b.take c):=hu.down (ht.mem b hb) (List.take_prefix _ _) hn
   rcases a1J hu ht.mem hh with ⟨h1,_⟩|⟨_,h2⟩
   ·exact h1
   ·exact absurd ⟨b,hb,List.take_prefix _ _⟩ h2
 unfold g0J;rw [hf]
theorem a1R {t:Br}:g0J t []=([],true):=by unfold g0J d0n;rw [if_pos (show ([]:List Im).length=0 from rfl)]
theorem g1b {H:List Row}{r n:Nat}{xs:List F}{l:List Im}(hr:H[r]?=some (.data 57 xs))(hx:xs=l.flatMap Im.cs)(hn:n=l.length):Vw H (.sl r 0 n) (.f (fIm l)):=by
 subst hx;subst hn
 exact .sl hr (fun e=>by rw [List.eq_nil_of_length_eq_zero e];rfl)
set_option maxRecDepth 100000 in
theorem c_law_TreeFinds (s:List (List Rw))(a:List Int)(d:List Rd)(which at' turn:Int):Con Tryz.prog 4 [lnD s a d,D.int which,D.int at',D.int turn] [] fun r H'=>r = .f (.v (.bool true))∧H'=[]:=by
 have hk:=c1P s a d
 have hu:=n0n s a d
 have ht:=b1D s a d
 have hlow:=ht.low
 have htl:=hk.len
 obtain ⟨t,hT⟩:∃ t,s0e s a d=t:=⟨_,rfl⟩
 rw [hT] at hk ht hlow htl
 haveI:Kn (TrK t):=⟨hk⟩
 haveI:Kn (t.length≤8∧∃ U,Uni U∧TrU U t):=⟨htl,_,hu,ht⟩
 refine Con.walk good h0S (by simp) ?_
 unfold e0F lnD
 simp only [a0I]
 by_cases hz:(t.length:Int)=0
 ·repeat' (with_reducible first|refine Wx.h ?_|refine Wb.h fun K hK=>?_|(refine hK _ ?_;clear hK K)|(refine wT ?_ ?_;assumption)|((fail_if_success refine Wz.h ?_);simp (disch:=omega) only [↓LD,LA,a0A,seval,LBr,LSs,hT]))
  refine c0c (args0:=[.ag [.f (fBr t)],.f (fIm [])]) ?_ (by repeat' (first|exact WDs.nil|refine WDs.cons ?_ ?_|exact WD.refl|exact WD.f .ns|exact WD.f .es|refine WD.ags ?_|refine WD.f (WF.ls ?_)|exact WFs.nil|refine WFs.cons ?_ ?_|exact WF.refl|exact WF.ns|exact WF.es))
  haveI:Kn (([]:List Im).length≤1000000):=⟨by simp⟩
  repeat' (with_reducible first|refine Wx.h ?_|refine Wb.h fun K hK=>?_|(refine hK _ ?_;clear hK K)|((fail_if_success refine Wz.h ?_);simp (disch:=omega) only [↓LD,LA,a0A,seval,LEv,a1R,List.length_nil]))
  all_goals exact end1 rfl rfl (by kernel_rfl) .f ⟨rfl,rfl⟩
 have pk:=b0N (x:=which) (n:=t.length) (by omega)
 obtain ⟨q,hq⟩:∃ q:Nat,pick which t.length=q:=⟨(pick which t.length).toNat,by omega⟩
 rw [hq] at pk
 have hql:q<t.length:=by omega
 have hgm:=a0K hql
 obtain ⟨b,hb⟩:∃ b,gt t q=b:=⟨_,rfl⟩
 rw [hb] at hgm
 obtain ⟨bk,bn⟩:=hk.ok b hgm
 have hbl:=bk.len
 have pk2:=b0N (x:=at') (n:=b.length+1) (by omega)
 obtain ⟨c,hc⟩:∃ c:Nat,pick at' (b.length+1)=c:=⟨(pick at' (b.length+1)).toNat,by omega⟩
 rw [hc] at pk2
 have hs:∀ H:List Row,subS H 9 73 (.f (fEv b)) 0 c=some (.f (fEv (b.take c))):=fun H=>c0x (by omega)
 have hfp:=z0R hu ht hgm c
 have tk:=bk.take c
 obtain ⟨e,he⟩:∃ e,b.take c=e:=⟨_,rfl⟩
 have hel:e.length=c:=by rw [←he,List.length_take];omega
 rw [he] at hs hfp tk
 haveI:Kn (IdL e):=⟨tk.idL⟩
 haveI:Kn (FitL e):=⟨tk.fitL⟩
 haveI:Kn ((ofL e).length≤1000000):=⟨tk.ofK⟩
 by_cases hc0:(c:Int)=0
 ·repeat' (with_reducible first|refine Wx.h ?_|refine We.h fun K hK=>?_|(refine hK _ _ _ _ ?_;clear hK K;try clear hM M)|refine Wb.h fun K hK=>?_|(refine hK _ ?_;clear hK K)|(refine wT ?_ ?_;assumption)|(refine wF ?_ ?_;assumption)|(refine Wy.h ?_ ?_;kernel_rfl)|((fail_if_success refine Wz.h ?_);first|simp (disch:=omega) only [↓LD,LA,a0A,seval,LBr,LSs,LEv,hT,hq,hb,hc,hs,hfp,d0a,Int.toNat_natCast]|(refine And.intro ?_ ?_;omega)|fail))
  all_goals exact end1 rfl rfl (by kernel_rfl) .f ⟨rfl,rfl⟩
 have hol:0<(ofL e).length:=Nat.pos_of_ne_zero fun h=>by
  have:=b1f (List.eq_nil_of_length_eq_zero h)
  rw [this] at hel;simp at hel;omega
 have pk3:=b0N (x:=turn) (n:=(ofL e).length) (by omega)
 obtain ⟨k,hkk⟩:∃ k:Nat,pick turn (ofL e).length=k:=⟨(pick turn (ofL e).length).toNat,by omega⟩
 rw [hkk] at pk3
 have hkl:k<(ofL e).length:=by omega
 have htu:=t0P hlow tk hkl
 have hve:1≤(gt (ofL e) k).ver∧(gt (ofL e) k).ver≤3500:=by
  obtain ⟨x,h1,h2⟩:=o0B tk _ (a0K hkl)
  rw [←h2]
  exact ⟨tk.ver0 h1,(hlow b hgm).2 x (List.mem_of_mem_take (he ▸ h1))⟩
 have hok:=tk.ofK
 have hfr:g0J t ((ofL e).set k ⟨(gt (ofL e) k).id,(gt (ofL e) k).ver+4000000⟩)=([],false):=by unfold g0J;rw [htu]
 have hsv:=z0e (l:=ofL e) (k:=k) (a:=(gt (ofL e) k).ver+4000000) hkl
 have ha1:=e0D hkl
 have hlen3:((ofL e).set k ⟨(gt (ofL e) k).id,(gt (ofL e) k).ver+4000000⟩).length=(ofL e).length:=List.length_set
 clear htu hlow
 generalize hI:(ofL e).set k ⟨(gt (ofL e) k).id,(gt (ofL e) k).ver+4000000⟩=I at *
 generalize (gt (ofL e) k).ver=v at *
 repeat' (with_reducible first|refine Wx.h ?_|refine We.h fun K hK=>?_|(refine hK _ _ _ _ ?_;clear hK K;try clear hM M)|refine Wb.h fun K hK=>?_|(refine hK _ ?_;clear hK K)|(refine wF ?_ ?_;assumption)|(refine Wy.h ?_ ?_;kernel_rfl)|refine Wq.h ?_ ?_<;>intro h<;>try (exfalso;omega)|((fail_if_success refine Wz.h ?_);first|simp (disch:=omega) only [↓LD,LA,a0A,seval,LBr,LSs,LEv,LIm,hT,hq,hb,hc,hs,hfp,hkk,x0U,b0p,ha1,hsv,d0a,Int.toNat_natCast]|(refine And.intro ?_ ?_;omega)|fail))
 ·rw [←hlen3] at hok
  haveI:Kn (I.length≤1000000):=⟨hok⟩
  refine d0J [3] (args0:=[.ag [.f (fBr t)],.f (fIm I)]) (.cons (.ags (.cons .f .nil)) (.cons (g1b rfl rfl hlen3.symm) .nil)) ?_
  repeat' (with_reducible first|refine Wx.h ?_|refine Wb.h fun K hK=>?_|(refine hK _ ?_;clear hK K)|((fail_if_success refine Wz.h ?_);simp (disch:=omega) only [↓LD,LA,a0A,seval,hfr]))
  exact end1 rfl rfl (by kernel_rfl) .f ⟨rfl,rfl⟩
end Go.Proofs.YthjgmldnegaaiaaGreatDoor.Mir
namespace Go.Proofs.YthjgmldnegaaiaaGreatDoor
open Go Go.RowKit
theorem treeFinds_walk (W:World)(hg:∀ p∈Mir.glTab,Mir.RF W (fun _=>False) p.1 p.2)(x:LnIn)(a1 a2 a3:Int)(h:lnOk W x)(_ : -9223372036854775808≤a1∧a1≤9223372036854775807)(_ : -9223372036854775808≤a2∧a2≤9223372036854775807)(_ : -9223372036854775808≤a3∧a3≤9223372036854775807) :
  Calls Tryz.prog 4 #[.agg (lnV x).toArray,.int .i64 a1,.int .i64 a2,.int .i64 a3] W fun e w'=>e = .returned (.bool true)∧Below W.heap.size W w' :=
 Mir.Con.calls (Mir.c_law_TreeFinds (lnS x) (lnA x) (lnR x) a1 a2 a3) hg fun _ hA=>.one (r_ln hA h) (.one (.f (.v rfl)) (.one (.f (.v rfl)) (.one (.f (.v rfl)) .none)))
end Go.Proofs.YthjgmldnegaaiaaGreatDoor
namespace Go.Proofs.YthjgmldnegaaiaaGreatDoor.treeFinds
open Go
set_option maxHeartbeats 0 in
theorem closed:joinedFacts Tryz.prog 4 Tryz.f4 (OpenSpec.ofChange Rows.treeFindsSpec).bare Rows.treeFindsRow=true:=by
 unfold joinedFacts
 repeat' (with_reducible refine Bool.and_eq_true_iff.2 ⟨?_,?_⟩)
 all_goals as_aux_lemma=>kernel_rfl
end Go.Proofs.YthjgmldnegaaiaaGreatDoor.treeFinds
