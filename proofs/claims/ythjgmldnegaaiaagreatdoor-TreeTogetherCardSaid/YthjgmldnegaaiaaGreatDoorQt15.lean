/- Lemmas for the proof. No condition. -/
import Derived.Test.YthjgmldnegaaiaaGreatDoorQt14
import Derived.Shelf.Spec.SlicesInsertGrow
set_option linter.unusedVariables false
set_option linter.unusedSimpArgs false
namespace Go.Proofs.YthjgmldnegaaiaaGreatDoor.Mir
open Go Go.RowKit
set_option maxHeartbeats 4000000
theorem s0c (l m:List Int)(hl:l.length≤1000000)(hm:m.length≤1000000):Con Tryz.prog 154 [.f (fI l),.f (fI m)] [] fun r H'=>r=D.bool (eqB l m)∧H'=[]:=by
 refine Con.walk good s0L (by simp) ?_
 unfold i0o
 simp only [a0J]
 by_cases hlm:(l.length:Int)=m.length
 rotate_left
 ·repeat' (with_reducible first|refine Wx.h ?_|refine Wb.h fun K hK=>?_|(refine hK _ ?_;clear hK K)|(refine wF ?_ ?_;assumption)|((fail_if_success refine Wz.h ?_);simp (disch:=omega) only [↓LD,LA,a0A,seval,LSt]))
  rw [g0E hlm]
  exact end1 rfl rfl (by kernel_rfl) .f ⟨rfl,rfl⟩
 repeat' (with_reducible first|refine Wx.h ?_|refine Wb.h fun K hK=>?_|(refine hK _ ?_;clear hK K)|(refine wT ?_ ?_;assumption)|((fail_if_success refine Wz.h ?_);simp (disch:=omega) only [↓LD,LA,a0A,seval,LSt]))
 refine HS.loopG [0,1,12,13] (fun i:Nat=>⟨frm 26 [(0,.f (fI l)),(1,.f (fI m)),(12,D.int l.length),(13,D.int i)],[],[]⟩) (fun i=>i≤l.length∧l.take i=m.take i) (fun i=>l.length-i) 0 (by kernel_rfl) ⟨Nat.zero_le _,rfl⟩ ?_
 rintro i ⟨hi,ht⟩
 by_cases hil:i<l.length
 ·by_cases e:gt l i=gt m i
  ·repeat' (with_reducible first|refine Wx.h ?_|refine We.h fun K hK=>?_|(refine hK _ _ _ _ ?_;clear hK K;try clear hM M)|refine Wb.h fun K hK=>?_|(refine hK _ ?_;clear hK K)|(refine wT ?_ ?_;assumption)|(refine Wy.h ?_ ?_;kernel_rfl)|refine Wq.h ?_ ?_<;>intro h<;>try (exfalso;omega)|((fail_if_success refine Wz.h ?_);first|simp (disch:=omega) only [↓LD,LA,a0A,seval,LSt]|(refine And.intro ?_ ?_;omega)|fail))
   exact Next.mk (i+1) (by kernel_rfl) ⟨by omega,d0E hlm hil ht e⟩ (by omega)
  ·repeat' (with_reducible first|refine Wx.h ?_|refine We.h fun K hK=>?_|(refine hK _ _ _ _ ?_;clear hK K;try clear hM M)|refine Wb.h fun K hK=>?_|(refine hK _ ?_;clear hK K)|(refine wF ?_ ?_;assumption)|(refine Wy.h ?_ ?_;kernel_rfl)|refine Wq.h ?_ ?_<;>intro h<;>try (exfalso;omega)|((fail_if_success refine Wz.h ?_);first|simp (disch:=omega) only [↓LD,LA,a0A,seval,LSt]|(refine And.intro ?_ ?_;omega)|fail))
   rw [l0C e]
   exact end1 rfl rfl (by kernel_rfl) .f ⟨rfl,rfl⟩
 ·repeat' (with_reducible first|refine Wx.h ?_|refine Wb.h fun K hK=>?_|(refine hK _ ?_;clear hK K)|refine Wq.h ?_ ?_<;>intro h<;>try (exfalso;omega)|((fail_if_success refine Wz.h ?_);simp (disch:=omega) only [↓LD,LA,a0A,seval,LSt]))
  rw [g0U hlm ht (by omega)]
  exact end1 rfl rfl (by kernel_rfl) .f ⟨rfl,rfl⟩
instance {a b:List Int}{H:List Row}{K:D→List Row→Prop}[ha:Kn (a.length≤1000000)][hb:Kn (b.length≤1000000)]:Wa (a0S Tryz.prog (.fn 154 []) [.f (fI a),.f (fI b)] H K) (K (.f (.v (.bool (eqB a b)))) H):=⟨fun h=>a0C (s0c a b ha.h hb.h) rfl rfl rfl h⟩
theorem z0V (x y:Nd)(hx:x.ns.length≤1000000)(hy:y.ns.length≤1000000):Con Tryz.prog 126 [.ag (x.cs.map .f),.ag (y.cs.map .f)] [] fun r H'=>r=D.bool (eqB x y)∧H'=[]:=by
 obtain ⟨a1,a2,a3⟩:=x
 obtain ⟨b1,b2,b3⟩:=y
 dsimp only at hx hy
 haveI:Kn (a1.length≤1000000):=⟨hx⟩
 haveI:Kn (b1.length≤1000000):=⟨hy⟩
 refine Con.walk good n0o (by simp) ?_
 unfold h0D
 simp only [a0J]
 by_cases e4:a1=b1
 ·have hb:=d0q e4
  repeat' (with_reducible first|refine Wx.h ?_|refine Wb.h fun K hK=>?_|(refine hK _ ?_;clear hK K)|refine Wq.h ?_ ?_<;>intro h|((fail_if_success refine Wz.h ?_);simp (disch:=omega) only [↓LD,LA,a0A,seval,Nd.cs,hb]))
  ·rw [d0q (by subst_vars;rfl)];exact end1 rfl rfl (by kernel_rfl) .f ⟨rfl,rfl⟩
  all_goals
   rw [e0H (by intro e;cases e;contradiction)];exact end1 rfl rfl (by kernel_rfl) .f ⟨rfl,rfl⟩
 ·have hb:=e0H e4
  repeat' (with_reducible first|refine Wx.h ?_|refine Wb.h fun K hK=>?_|(refine hK _ ?_;clear hK K)|((fail_if_success refine Wz.h ?_);simp (disch:=omega) only [↓LD,LA,a0A,seval,Nd.cs,hb]))
  all_goals rw [e0H (fun e=>e4 (by cases e;rfl))];exact end1 rfl rfl (by kernel_rfl) .f ⟨rfl,rfl⟩
theorem k0k (l m:List Nd)(g:FuncId)(hl:l.length≤1000000)(hm:m.length≤1000000)
  (hf:∀ x∈l,∀ y∈m,Con Tryz.prog g [.ag (x.cs.map .f),.ag (y.cs.map .f)] [] fun r H'=>r=D.bool (eqB x y)∧H'=[]) :
  Con Tryz.prog 125 [.f (fG l),.f (fG m),.fn g []] [] fun r H'=>r=D.bool (eqB l m)∧H'=[]:=by
 refine Con.walk good j0k (by simp) ?_
 unfold e0n
 simp only [a0J]
 by_cases hlm:(l.length:Int)=m.length
 rotate_left
 ·repeat' (with_reducible first|refine Wx.h ?_|refine Wb.h fun K hK=>?_|(refine hK _ ?_;clear hK K)|(refine wF ?_ ?_;assumption)|((fail_if_success refine Wz.h ?_);simp (disch:=omega) only [↓LD,LA,a0A,seval,LSt]))
  rw [g0E hlm]
  exact end1 rfl rfl (by kernel_rfl) .f ⟨rfl,rfl⟩
 repeat' (with_reducible first|refine Wx.h ?_|refine Wb.h fun K hK=>?_|(refine hK _ ?_;clear hK K)|(refine wT ?_ ?_;assumption)|((fail_if_success refine Wz.h ?_);simp (disch:=omega) only [↓LD,LA,a0A,seval,LSt]))
 refine HS.loopG [1,2,15,16,17] (fun i:Nat=>⟨frm 32 [(1,.f (fG m)),(2,.fn g []),(15,.f (fG l)),(16,D.int l.length),(17,D.int i)],[],[]⟩) (fun i=>i≤l.length∧l.take i=m.take i) (fun i=>l.length-i) 0 (by kernel_rfl) ⟨Nat.zero_le _,rfl⟩ ?_
 rintro i ⟨hi,ht⟩
 by_cases hil:i<l.length
 ·repeat' (with_reducible first|refine Wx.h ?_|refine Wb.h fun K hK=>?_|(refine hK _ ?_;clear hK K)|refine Wq.h ?_ ?_<;>intro h<;>try (exfalso;omega)|((fail_if_success refine Wz.h ?_);first|simp (disch:=omega) only [↓LD,LA,a0A,seval,LSt,d1a,f1x,Nd.cs,-a0A]|(refine And.intro ?_ ?_;omega)|fail))
  refine a0C (hf _ (a0K hil) _ (a0K (l:=m) (k:=i) (by omega))) rfl rfl rfl ?_
  by_cases e:gt l i=gt m i
  ·rw [d0q e]
   repeat' (with_reducible first|refine Wx.h ?_|refine Wb.h fun K hK=>?_|(refine hK _ ?_;clear hK K)|((fail_if_success refine Wz.h ?_);simp (disch:=omega) only [↓LD,LA,a0A,seval,LSt]))
   exact Next.mk (i+1) (by kernel_rfl) ⟨by omega,d0E hlm hil ht e⟩ (by omega)
  ·rw [e0H e]
   repeat' (with_reducible first|refine Wx.h ?_|refine Wb.h fun K hK=>?_|(refine hK _ ?_;clear hK K)|((fail_if_success refine Wz.h ?_);simp (disch:=omega) only [↓LD,LA,a0A,seval,LSt]))
   rw [l0C e]
   exact end1 rfl rfl (by kernel_rfl) .f ⟨rfl,rfl⟩
 ·repeat' (with_reducible first|refine Wx.h ?_|refine Wb.h fun K hK=>?_|(refine hK _ ?_;clear hK K)|refine Wq.h ?_ ?_<;>intro h<;>try (exfalso;omega)|((fail_if_success refine Wz.h ?_);simp (disch:=omega) only [↓LD,LA,a0A,seval,LSt]))
  rw [g0U hlm ht (by omega)]
  exact end1 rfl rfl (by kernel_rfl) .f ⟨rfl,rfl⟩
instance {a b:List Nd}{H:List Row}{K:D→List Row→Prop}[ha:Kn (a1T a)][hb:Kn (a1T b)]:Wa (a0S Tryz.prog (.fn 125 []) [.f (fG a),.f (fG b),.fn 126 []] H K) (K (.f (.v (.bool (eqB a b)))) H):=⟨fun h=>a0C (k0k a b _ ha.h.1 hb.h.1 fun x hx y hy=>z0V x y (ha.h.2 x hx) (hb.h.2 y hy)) rfl rfl rfl h⟩
def h0L:SCode :=
 (jq ([.a 4 (.mv kF)]) (jq ((ap [jm 5 0,jm 6 1,.a 7 (.call (kC 81) [(.t 5),(.t 6),(kC 77)])] [jm 4 7])) .ret))
theorem n0n:Fn Tryz.prog 49 8 [.t 4] h0L:=.of Tryz.func49 (by kernel_rfl)
def o0g:SCode :=
  (jq ([.a 6 (.mv kF)]) (.seq (jq ([jm 10 0,je 11 10,jm 12 1,je 13 12,jB 14 .neq 11 13]) (jc 14 (jq ([.a 6 (.mv kF)]) .ret) .skip)) (.seq (jq ([jm 15
 0,je 16 15,jk 17 0]) (.block 0 (.loop (jq ([jB 18 .lss 17 16]) (.seq (jc 18 .skip (.exit 0)) (.seq (.block 1 (jq ([jm 19 17,jx 20 9 15 17,jL 21 9
 20,.a 8 (.alloc 73 [jI,jI,jI,jI,jI,jI,(.f (.v (.string ⟨#[]⟩))),jN,jN]),jm 7 19,.n (.store 9 (.t 8) (.t 21))]) (jq ([jm 22 1,jm 23 7,jx 24
 9 22 23,jL 25 9 24,.a 9 (.alloc 73 [jI,jI,jI,jI,jI,jI,(.f (.v (.string ⟨#[]⟩))),jN,jN]),.n (.store 9 (.t 9) (.t 25))]) (jq ((ap [jm 26 2,jL
 27 9 8,jL 28 9 9,.a 29 (.call (.t 26) [(.t 27),(.t 28)])] [.a 30 (.unot (.t 29))])) (jc 30 (jq ([.a 6 (.mv kF)]) .ret) .skip))))) (.ops [jb 31 .add
 17 1,jm 17 31]))))))) (jq ([.a 6 (.mv kT)]) .ret))))
theorem y0A:Fn Tryz.prog 81 32 [.t 6] o0g:=.of Tryz.func81 (by kernel_rfl)
def m0K:SCode :=
  (jq ([.a 4 (.mv kF)]) (.seq (jq ([jm 6 0,je 7 6,jm 8 1,je 9 8,jB 10 .neq 7 9]) (jc 10 (jq ([.a 4 (.mv kF)]) .ret) .skip)) (.seq (jq ([jm 11 0,je
 12 11,jk 13 0]) (.block 0 (.loop (jq ([jB 14 .lss 13 12]) (.seq (jc 14 .skip (.exit 0)) (.seq (.block 1 (jq ([jm 15 13,jm 5 15]) (.seq (.drw [jm 16
 0,jm 17 5,jx 18 1 16 17,jl 19 18,jm 20 1,jm 21 5,jx 22 1 20 21,jl 23 22,jB 24 .neq 19 23] [0,0,3,7,0,0,48,112,255]) (jc 24 (jq ([.a 4
 (.mv kF)]) .ret) .skip)))) (.ops [jb 25 .add 13 1,jm 13 25]))))))) (jq ([.a 4 (.mv kT)]) .ret))))
theorem t0C:Fn Tryz.prog 124 26 [.t 4] m0K:=.of Tryz.func124 (by kernel_rfl)
def k0F:SCode :=
  (jq ([jk 4 0]) (jq ([jk 5 0]) (.seq (.block 0 (.loop (.seq (.seq (.drw [jm 6 5,jm 7 0,je 8 7,jm 9 1,je 10 9,.a 11 (.mm false (.t 8) (.t 10)),jB
 12 .lss 6 11,jm 13 12,gM 14 0 13 true,gM 15 5 13 true,jG 16 (.idx 9 (.t 14) (.t 15)) 13 true,jG 17 (.loadA 9 (.t 16)) 13 true,gM 18 1 13 true,gM
 19 5 13 true,jG 20 (.idx 9 (.t 18) (.t 19)) 13 true,jG 21 (.loadA 9 (.t 20)) 13 true,jG 22 (.call (kC 77) [(.t 17),(.t 21)]) 13 true,.a 23 (.pick
 (.t 13) (.t 22) kF)] [0,0,2,0,8,30,63,127,255,255,1023,2047,255,255,12543,28927,65535,131071]) (jc 23 .skip (.exit 0))) (.block 1
 (.ops [jm 24 5,jb 25 .add 24 1,jm 5 25]))))) (jq ([jm 26 5,jm 4 26]) .ret))))
theorem p0A:Fn Tryz.prog 45 27 [.t 4] k0F:=.of Tryz.func45 (by kernel_rfl)
def g0l:SCode :=
 (jq ([jk 2 0]) (jq ((ap [jm 3 0,.a 4 (.call (kC 22) [(.t 3)])] (ap [.a 5 (.call (kC 54) [(.t 4)])] [.a 6 (.fld1 1 (.t 5)),jm 2 6]))) .ret))
theorem o0L:Fn Tryz.prog 78 7 [.t 2] g0l:=.of Tryz.func78 (by kernel_rfl)
def k0v:SCode :=
  (jq ([.a 6 (.mv kF)]) (jq ((ap [jm 8 0,jm 9 1,.a 10 (.call (kC 45) [(.t 8),(.t 9)])] [jm 7 10])) (.seq (.drw [jm 11 7,jm 12 2,jB 13 .geq 11 12,jm
 14 13,gM 15 7 14 true,gM 16 0 14 true,jG 17 (.slen (.t 16)) 14 true,gM 18 1 14 true,jG 19 (.slen (.t 18)) 14 true,jG 20 (.mm false (.t 17) (.t
 19)) 14 true,jG 21 (.bin .lss (.t 15) (.t 20)) 14 true,.a 22 (.pick (.t 14) (.t 21) kF),jm 23 22,gM 24 0 23 true,gM 25 7 23 true,jG 26 (.idx 9
 (.t 24) (.t 25)) 23 true,gO 27 1 26 23 true,gL 28 27 23 true,gM 29 1 23 true,gM 30 7 23 true,jG 31 (.idx 9 (.t 29) (.t 30)) 23 true,gO 32 1 31 23
 true,gL 33 32 23 true,jG 34 (.bin .eql (.t 28) (.t 33)) 23 true,.a 35 (.pick (.t 23) (.t 34) kF),jm 6 35] [0,0,3,7,15,15,47,15,143,495,
 1023,2047,4095,8191,8191,32767,65535,131071,8191,8191,794623,1843199,3940351,8388607,16777215,33554431]) .ret)))
theorem t0o:Fn Tryz.prog 43 36 [.t 6] k0v:=.of Tryz.func43 (by kernel_rfl)
def o0r:SCode :=
 (jq ([.a 4 (.mv kF)]) (jq ((ap [jl 5 1,jm 6 0,jl 7 2,.a 8 (.call (kC 43) [(.t 5),(.t 6),(.t 7)])] [jm 4 8])) .ret))
theorem x0B:Fn Tryz.prog 42 9 [.t 4] o0r:=.of Tryz.func42 (by kernel_rfl)
def p0z:SCode :=
  (jq ([.a 3 (.mv kF)]) (.seq (.drw [jl 4 1,jm 5 0,.a 6 (.call (kC 45) [(.t 4),(.t 5)]),jl 7 1,je 8 7,jB 9 .eql 6 8,jm 3 9] [0,0,3,0,8,31,
 63]) .ret))
theorem x0w:Fn Tryz.prog 44 10 [.t 3] p0z:=.of Tryz.func44 (by kernel_rfl)
def j0W:SCode :=
 (jq ([.a 4 (.mv kF)]) (jq ((ap [jm 5 0,jm 6 1,.a 7 (.call (kC 76) [(.t 5),(.t 6)])] (ap [jb 8 .geq 7 0] [jm 4 8]))) .ret))
theorem p0H:Fn Tryz.prog 41 9 [.t 4] j0W:=.of Tryz.func41 (by kernel_rfl)
def h0w:SCode :=
  (jq ([.a 1 (.box 30 (.t 0)),.a 2 (.alloc 30 [jN])]) (jq ([.a 3 (.alloc 30 [jN])]) (.seq (jq ([jo 6 0 1,jl 7 6,je 8 7,jk 9 0]) (.block 0 (.loop (jq
 ([jB 10 .lss 9 8]) (.seq (jc 10 .skip (.exit 0)) (.seq (.block 1 (jq ([jx 11 1 7 9,jl 12 11,jm 5 12]) (.drw [jo 13 0 3,jl 14 13,jm 15 5,.a 16
 (.call (kC 51) [(.t 15)]),.a 17 (.bsl 25 1 1 [jN] [(0,(.t 16))]),.a 18 (.app 25 1 24 (.t 14) (.t 17)),jo 19 0 3,.n (.store 1 (.t 19) (.t 18))] [0,
 1,0,4,12,31,63,127]))) (.ops [jb 20 .add 9 1,jm 9 20]))))))) (jq ([jL 21 1 3,.n (.store 1 (.t 2) (.t 21))]) .ret))))
theorem o0t:Fn Tryz.prog 46 22 [.cA 1 2] h0w:=.of Tryz.func46 (by kernel_rfl)
def r0T:SCode :=
  (jq ([.a 2 (.box 30 (.t 0)),.a 3 (.box 25 (.t 1)),.a 4 (.alloc 30 [jN]),jk 5 0]) (jq ([.a 6 (.alloc 30 [jN])]) (.seq (jq ([jo 10 0 2,jl 11 10,je
 12 11,jk 13 0]) (.block 0 (.loop (jq ([jB 14 .lss 13 12]) (.seq (jc 14 .skip (.exit 0)) (.seq (.block 1 (jq ([jx 15 1 11 13,jl 16 15,jm 8 16]) (.seq
 (jq ((ap [jl 17 3,jm 18 8,.a 19 (.call (kC 45) [(.t 17),(.t 18)])] [jm 20 8,je 21 20,jB 22 .eql 19 21])) (jc 22 (.exit 1) .skip)) (.seq (.seq
 (.drw [jm 23 8,.a 24 (.call (kC 78) [(.t 23)]),jl 25 3,.a 26 (.call (kC 78) [(.t 25)]),jB 27 .eql 24 26] [0,1,0,7,15]) (jc 27 (jq ([.a 28 (.bld
 [jN] []),.n (.store 1 (.t 4) (.t 28)),jk 5 1]) .ret) .skip)) (.ops (ap [jo 29 0 6,jl 30 29,jm 31 8,.a 32 (.bsl 25 1 1 [jN] [(0,(.t 31))]),.a 33
 (.app 25 1 24 (.t 30) (.t 32))] [jo 34 0 6,.n (.store 1 (.t 34) (.t 33))])))))) (.ops [jb 35 .add 13 1,jm 13 35]))))))) (.seq (jq ([jo 36 0 6,jl 37
 36,je 38 37,jb 39 .geq 38 8]) (jc 39 (jq ([.a 40 (.bld [jN] []),.n (.store 1 (.t 4) (.t 40)),jk 5 2]) .ret) .skip)) (jq ((ap [jo 41 0 6,jl 42 41,
 .a 43 (.fn 79 [(.t 3)]),.a 44 (.call (kC 76) [(.t 42),(.t 43)])] [jm 9 44])) (.seq (jq ([jm 45 9,jb 46 .lss 45 0]) (jc 46 (.ops [jo 47 0 6,jl 48
 47,je 49 48,jm 9 49]) .skip)) (jq ((ap [jo 50 0 6,jl 51 50,jm 52 9,jl 53 3,.a 54 (.bsl 25 1 1 [jN] [(0,(.t 53))]),.a 55 (.call (kC 80) [(.t
 51),(.t 52),(.t 54)])] [jo 56 0 6,.n (.store 1 (.t 56) (.t 55))])) (jq ((ap [jL 57 1 6,.a 58 (.call (kC 46) [(.t 57)])] [.n (.store 1 (.t 4) (.t
 58)),jk 5 0])) .ret))))))))
theorem y0M:Fn Tryz.prog 47 59 [.cA 1 4,.t 5] r0T:=.of Tryz.func47 (by kernel_rfl)
def g0F:SCode :=
  (jq ([jk 4 0]) (.seq (jq ([jm 6 0,je 7 6,jk 8 0]) (.block 0 (.loop (jq ([jB 9 .lss 8 7]) (.seq (jc 9 .skip (.exit 0)) (.seq (.block 1 (jq ([jm 10 8,
 jm 5 10]) (jq ([jm 11 1,jm 12 0,jm 13 5,jx 14 1 12 13,jl 15 14,.a 16 (.call (.t 11) [(.t 15)])]) (jc 16 (jq ([jm 17 5,jm 4 17]) .ret) .skip))))
 (.ops [jb 18 .add 8 1,jm 8 18]))))))) (jq ([.a 4 (.mv (kI (-1)))]) .ret)))
theorem j0e:Fn Tryz.prog 76 19 [.t 4] g0F:=.of Tryz.func76 (by kernel_rfl)
def l0D:SCode :=
  (jq ([.a 3 (.mv kF)]) (jq ((ap [jl 4 1,.a 5 (.call (kC 22) [(.t 4)])] (ap [jm 6 0,.a 7 (.call (kC 22) [(.t 6)])] (ap [.a 8 (.call (kC 26) [(.t 5),
 (.t 7)])] (ap [jb 9 .gtr 8 0] [jm 3 9]))))) .ret))
theorem s0R:Fn Tryz.prog 79 10 [.t 3] l0D:=.of Tryz.func79 (by kernel_rfl)
def w0m:SCode :=
  (jq ([.a 2 (.box 30 (.t 0)),.a 3 (.box 38 (.t 1)),.a 4 (.alloc 30 [jN]),.a 5 (.mv kF),jk 6 0]) (.seq (jq ((ap [jo 15 3 3,jl 16 15,je 17 16,jb 18
 .eql 17 0] (ap [jm 19 18,gO 20 2 3 19 false] (ap [gL 21 20 19 false,jG 22 (.call (kC 40) [(.t 21)]) 19 false] [jG 23 (.unot (.t 22)) 19 false,.a 24
 (.pick (.t 19) kT (.t 23))])))) (jc 24 (jq ([.a 25 (.bld [jN] []),.n (.store 1 (.t 4) (.t 25)),.a 5 (.mv kF),jk 6 1]) .ret) .skip)) (jq ((ap [jL 27
 1 2,jo 28 2 3,jl 29 28,.a 30 (.call (kC 21) [(.t 27),(.t 29)])] [jm 26 30,jE 31 0 26,jE 32 1 26,jm 7 31,jm 8 32])) (.seq (jq ([jm 33 8,.a 34
 (.unot (.t 33))]) (jc 34 (jq ([.a 35 (.bld [jN] []),.n (.store 1 (.t 4) (.t 35)),.a 5 (.mv kF),jk 6 4]) .ret) .skip)) (jq ((ap [jm 36 7,jo 37 3 3,
 jl 38 37,.a 39 (.app 73 9 112 (.t 36) (.t 38))] [.a 9 (.alloc 25 [jN]),.n (.store 1 (.t 9) (.t 39))])) (.seq (jq ((ap [jl 41 9,.a 42 (.call (kC 24)
 [(.t 41)])] [jm 40 42,jE 43 0 40,jE 44 1 40,.a 10 (.alloc 65 [jI,jI,jI,jI,jF,jN,jN,jN,jN]),.n (.store 9 (.t 10) (.t 43)),jm 11 44])) (jq
 ([jm 45 11,jb 46 .neq 45 0]) (jc 46 (jq ([.a 47 (.bld [jN] []),.n (.store 1 (.t 4) (.t 47)),.a 5 (.mv kF),jk 6 1]) .ret) .skip))) (jq ([jm 48 7,je
 49 48,.a 12 (.alloc 3 [jI]),.n (.store 1 (.t 12) (.t 49))]) (.seq (jq ([jo 50 0 2,jl 51 50,.a 52 (.fn 42 [(.t 9),(.t 12)]),.a 53 (.call (kC 41)
 [(.t 51),(.t 52)])]) (jc 53 (jq ([.a 54 (.bld [jN] []),.n (.store 1 (.t 4) (.t 54)),.a 5 (.mv kF),jk 6 1]) .ret) .skip)) (.seq (jq ([jo 55 0 2,jl
 56 55,.a 57 (.fn 44 [(.t 9)]),.a 58 (.call (kC 41) [(.t 56),(.t 57)])]) (jc 58 (jq ((ap [jL 59 1 2,.a 60 (.call (kC 46) [(.t 59)])] [.n (.store 1
 (.t 4) (.t 60)),.a 5 (.mv kF),jk 6 0])) .ret) .skip)) (jq ((ap [jL 62 1 2,jl 63 9,.a 64 (.call (kC 47) [(.t 62),(.t 63)])] [jm 61 64,jE 65 0 61,
 jE 66 1 61,.a 13 (.alloc 30 [jN]),.n (.store 1 (.t 13) (.t 65)),jm 14 66])) (jq ((ap [jL 67 1 13,jm 68 14,jb 69 .eql 68 0] [jm 70 14,.n (.store 1
 (.t 4) (.t 67)),jm 5 69,jm 6 70])) .ret)))))))))))
theorem y0c:Fn Tryz.prog 12 71 [.cA 1 4,.t 5,.t 6] w0m:=.of Tryz.func12 (by kernel_rfl)
def f0i:SCode :=
  (jq ([.a 2 (.box 30 (.t 0)),.a 4 (.mv kN),.a 5 (.mv kF)]) (jq ((ap [jm 9 1,.a 10 (.call (kC 54) [(.t 9)])] [.a 11 (.fld1 0 (.t 10)),jm 6 11]))
 (.seq (jq ([jm 12 1,je 13 12,jb 14 .eql 13 0]) (jc 14 (jq ([.a 4 (.mv kN),.a 5 (.mv kT)]) .ret) .skip)) (.seq (jq ([jo 15 0 2,jl 16 15,je 17 16,
 jk 18 0]) (.block 0 (.loop (jq ([jB 19 .lss 18 17]) (.seq (jc 19 .skip (.exit 0)) (.seq (.block 1 (jq ([jx 20 1 16 18,jl 21 20,jm 8 21]) (jq ((ap [jm
 22 6,jb 23 .geq 22 1] (ap [jm 24 23,gM 25 6 24 true] (ap [gM 26 8 24 true,jG 27 (.slen (.t 26)) 24 true,jG 28 (.bin .leq (.t 25) (.t 27)) 24 true]
 (ap [.a 29 (.pick (.t 24) (.t 28) kF),jm 30 29,gM 31 8 30 true] (ap [gM 32 6 30 true,jG 33 (.sub 9 73 (.t 31) none (some (.t 32)) none) 30 true,jG
 34 (.call (kC 22) [(.t 33)]) 30 true] (ap [gM 35 1 30 true,jG 36 (.call (kC 55) [(.t 34),(.t 35)]) 30 true] [.a 37 (.pick (.t 30) (.t 36) kF)])))))))
 (jc 37 (jq ((ap [jm 38 8,jm 39 6,.a 40 (.sub 9 73 (.t 38) none (some (.t 39)) none),.a 41 (.call (kC 51) [(.t 40)])] [jm 4 41,.a 5 (.mv kT)]))
 .ret) .skip)))) (.ops [jb 42 .add 18 1,jm 18 42]))))))) (jq ([.a 4 (.mv kN),.a 5 (.mv kF)]) .ret)))))
theorem g0D:Fn Tryz.prog 21 43 [.t 4,.t 5] f0i:=.of Tryz.func21 (by kernel_rfl)
def q0V:SCode :=
  (jq ([.a 2 (.box 30 (.t 0)),.a 3 (.box 30 (.t 1)),.a 4 (.mv kF)]) (jq ((ap [jo 5 0 2,jl 6 5,jo 7 0 3,jl 8 7,.a 9 (.call (kC 48) [(.t 6),(.t 8),
 (kC 49)])] [jm 4 9])) .ret))
theorem x0E:Fn Tryz.prog 14 10 [.t 4] q0V:=.of Tryz.func14 (by kernel_rfl)
def l0e:SCode :=
  (jq ([.a 4 (.mv kF)]) (jq ((ap [jm 8 0,.a 9 (.call (kC 22) [(.t 8)])] (ap [jm 10 1,.a 11 (.call (kC 22) [(.t 10)])] [jm 5 9,jm 6 11]))) (jq ((ap [jm
 12 5,jm 13 6,.a 14 (.call (kC 88) [(.t 12),(.t 13)])] [.a 15 (.fld1 0 (.t 14)),jm 7 15])) (jq ((ap [jm 16 7,jm 17 0,je 18 17,jB 19 .lss 16 18]
 (ap [jm 20 19,gM 21 7 20 true] (ap [gM 22 1 20 true,jG 23 (.slen (.t 22)) 20 true,jG 24 (.bin .lss (.t 21) (.t 23)) 20 true] (ap [.a 25 (.pick (.t
 20) (.t 24) kF),jm 26 25,gM 27 0 26 true] (ap [gM 28 1 26 true,jG 29 (.call (kC 45) [(.t 27),(.t 28)]) 26 true] (ap [gM 30 7 26 true,jG 31 (.bin
 .geq (.t 29) (.t 30)) 26 true] (ap [.a 32 (.pick (.t 26) (.t 31) kF),jm 33 32,gM 34 5 33 true] (ap [gM 35 6 33 true,jG 36 (.call (kC 26) [(.t 34),
 (.t 35)]) 33 true] (ap [jG 37 (.bin .gtr (.t 36) (kI 0)) 33 true] (ap [.a 38 (.pick (.t 33) (.t 37) kF),jm 39 38,gM 40 0 39 true] (ap [jG 41 (.call
 (kC 78) [(.t 40)]) 39 true] (ap [gM 42 1 39 true,jG 43 (.call (kC 78) [(.t 42)]) 39 true] (ap [jG 44 (.bin .neq (.t 41) (.t 43)) 39 true] [.a 45
 (.pick (.t 39) (.t 44) kF),jm 4 45])))))))))))))) .ret))))
theorem t0d:Fn Tryz.prog 53 46 [.t 4] l0e:=.of Tryz.func53 (by kernel_rfl)
def n0I:SCode :=
  (jq ([.a 1 (.box 30 (.t 0)),.a 2 (.mv kF)]) (.seq (jq ([jo 9 0 1,jl 10 9,je 11 10,jb 12 .gtr 11 8]) (jc 12 (jq ([.a 2 (.mv kF)]) .ret) .skip))
 (.seq (jq ([jo 13 0 1,jl 14 13,je 15 14,jk 16 0]) (.block 0 (.loop (jq ([jB 17 .lss 16 15]) (.seq (jc 17 .skip (.exit 0)) (.seq (.block 1 (jq ([jm
 18 16,jx 19 1 14 16,jl 20 19,jm 3 18,jm 4 20]) (.seq (jq ((ap [jm 22 4,.a 23 (.call (kC 24) [(.t 22)])] [jm 21 23,jE 24 0 21,jE 25 1 21,.a 5
 (.alloc 65 [jI,jI,jI,jI,jF,jN,jN,jN,jN]),.n (.store 9 (.t 5) (.t 24)),jm 6 25])) (jq ((ap [jm 26 6,jb 27 .neq 26 0] (ap [jm 28 27,gM 29 4
 28 false] (ap [jG 30 (.slen (.t 29)) 28 false,jG 31 (.bin .eql (.t 30) (kI 0)) 28 false] [.a 32 (.pick (.t 28) kT (.t 31))])))) (jc 32 (jq ([.a 2 (.mv
 kF)]) .ret) .skip))) (jq ([jo 33 0 1,jl 34 33,jm 35 3,.a 36 (.sub 1 25 (.t 34) none (some (.t 35)) none),je 37 36,jk 38 0]) (.block 2 (.loop (jq
 ([jB 39 .lss 38 37]) (.seq (jc 39 .skip (.exit 2)) (.seq (.block 3 (jq ([jx 40 1 36 38,jl 41 40,jm 8 41]) (jq ((ap [jm 42 8,jm 43 4,.a 44 (.call
 (kC 53) [(.t 42),(.t 43)])] [.a 45 (.unot (.t 44))])) (jc 45 (jq ([.a 2 (.mv kF)]) .ret) .skip)))) (.ops [jb 46 .add 38 1,jm 38 46])))))))))) (.ops
 [jb 47 .add 16 1,jm 16 47]))))))) (jq ([.a 2 (.mv kT)]) .ret))))
theorem t0a:Fn Tryz.prog 20 48 [.t 2] n0I:=.of Tryz.func20 (by kernel_rfl)
def o0l:SCode :=
  (jq ([.a 4 (.mv kF)]) (.seq (jq ([jm 6 0,je 7 6,jm 8 1,je 9 8,jB 10 .neq 7 9]) (jc 10 (jq ([.a 4 (.mv kF)]) .ret) .skip)) (.seq (jq ([jm 11 0,je
 12 11,jk 13 0]) (.block 0 (.loop (jq ([jB 14 .lss 13 12]) (.seq (jc 14 .skip (.exit 0)) (.seq (.block 1 (jq ([jm 15 13,jm 5 15]) (.seq (.drw [jm 16
 0,jm 17 5,jx 18 2 16 17,jL 19 2 18,jm 20 1,jm 21 5,jx 22 2 20 21,jL 23 2 22,.a 24 (.aeq false [0,0] (.t 19) (.t 23))] [0,0,3,7,0,0,48,
 112,255]) (jc 24 (jq ([.a 4 (.mv kF)]) .ret) .skip)))) (.ops [jb 25 .add 13 1,jm 13 25]))))))) (jq ([.a 4 (.mv kT)]) .ret))))
theorem w0z:Fn Tryz.prog 55 26 [.t 4] o0l:=.of Tryz.func55 (by kernel_rfl)
def r0I:SCode :=
  (jq ([.a 6 (.mv kF)]) (.seq (jq ([jm 10 0,je 11 10,jm 12 1,je 13 12,jB 14 .neq 11 13]) (jc 14 (jq ([.a 6 (.mv kF)]) .ret) .skip)) (.seq (jq ([jm 15
 0,je 16 15,jk 17 0]) (.block 0 (.loop (jq ([jB 18 .lss 17 16]) (.seq (jc 18 .skip (.exit 0)) (.seq (.block 1 (jq ([jm 19 17,jx 20 1 15 17,jl 21 20,
 jm 7 19,jm 8 21]) (jq ([jm 22 1,jm 23 7,jx 24 1 22 23,jl 25 24,jm 9 25]) (jq ((ap [jm 26 2,jm 27 8,jm 28 9,.a 29 (.call (.t 26) [(.t 27),(.t
 28)])] [.a 30 (.unot (.t 29))])) (jc 30 (jq ([.a 6 (.mv kF)]) .ret) .skip))))) (.ops [jb 31 .add 17 1,jm 17 31]))))))) (jq ([.a 6 (.mv kT)]) .ret))))
theorem x0k:Fn Tryz.prog 48 32 [.t 6] r0I:=.of Tryz.func48 (by kernel_rfl)
set_option maxRecDepth 100000 in
theorem d1P (a b:Bs)(ha:a.length≤1000000):Con Tryz.prog 124 [.f (fY a),.f (fY b)] [] fun r H'=>r=D.bool (eqB a b)∧H'=[]:=by
 refine Con.walk good t0C (by simp) ?_
 unfold m0K
 simp only [a0J]
 by_cases hlm:(a.length:Int)=b.length
 rotate_left
 ·repeat' (with_reducible first|refine Wx.h ?_|refine Wb.h fun K hK=>?_|(refine hK _ ?_;clear hK K)|(refine wF ?_ ?_;assumption)|((fail_if_success refine Wz.h ?_);simp (disch:=omega) only [↓LD,LA,a0A,seval]))
  rw [g0E hlm]
  exact end1 rfl rfl (by kernel_rfl) .f ⟨rfl,rfl⟩
 repeat' (with_reducible first|refine Wx.h ?_|refine Wb.h fun K hK=>?_|(refine hK _ ?_;clear hK K)|(refine wT ?_ ?_;assumption)|((fail_if_success refine Wz.h ?_);simp (disch:=omega) only [↓LD,LA,a0A,seval]))
 refine HS.loopG [0,1,12,13] (fun i:Nat=>⟨frm 26 [(0,.f (fY a)),(1,.f (fY b)),(12,D.int a.length),(13,D.int i)],[],[]⟩) (fun i=>i≤a.length∧a.take i=b.take i) (fun i=>a.length-i) 0 (by kernel_rfl) ⟨Nat.zero_le _,rfl⟩ ?_
 rintro i ⟨hi,ht⟩
 by_cases hil:i<a.length
 ·have hil2:i<b.length:=by omega
  by_cases e:gt a i=gt b i
  ·repeat' (with_reducible first|refine Wx.h ?_|refine We.h fun K hK=>?_|(refine hK _ _ _ _ ?_;clear hK K;try clear hM M)|refine Wb.h fun K hK=>?_|(refine hK _ ?_;clear hK K)|(refine Wy.h ?_ ?_;kernel_rfl)|refine Wq.h ?_ ?_<;>intro h<;>try (exfalso;omega)|((fail_if_success refine Wz.h ?_);first|simp (disch:=omega) only [↓LD,LA,a0A,seval,e]|(refine And.intro ?_ ?_;omega)|fail))
   exact Next.mk (i+1) (by kernel_rfl) ⟨by omega,d0E hlm hil ht e⟩ (by omega)
  ·have e2:¬ ((gt a i).toNat:Int)=((gt b i).toNat:Int):=fun h=>e (UInt8.toNat_inj.1 (by omega))
   repeat' (with_reducible first|refine Wx.h ?_|refine We.h fun K hK=>?_|(refine hK _ _ _ _ ?_;clear hK K;try clear hM M)|refine Wb.h fun K hK=>?_|(refine hK _ ?_;clear hK K)|(refine wF ?_ ?_;assumption)|(refine Wy.h ?_ ?_;kernel_rfl)|refine Wq.h ?_ ?_<;>intro h<;>try (exfalso;omega)|((fail_if_success refine Wz.h ?_);first|simp (disch:=omega) only [↓LD,LA,a0A,seval]|(refine And.intro ?_ ?_;omega)|fail))
   rw [l0C e]
   exact end1 rfl rfl (by kernel_rfl) .f ⟨rfl,rfl⟩
 ·repeat' (with_reducible first|refine Wx.h ?_|refine Wb.h fun K hK=>?_|(refine hK _ ?_;clear hK K)|refine Wq.h ?_ ?_<;>intro h<;>try (exfalso;omega)|((fail_if_success refine Wz.h ?_);simp (disch:=omega) only [↓LD,LA,a0A,seval]))
  rw [g0U hlm ht (by omega)]
  exact end1 rfl rfl (by kernel_rfl) .f ⟨rfl,rfl⟩
instance {a b:Bs}{H:List Row}{K:D→List Row→Prop}[ha:Kn (a.length≤1000000)]:Wa (a0S Tryz.prog (.fn 124 []) [.f (fY a),.f (fY b)] H K) (K (.f (.v (.bool (eqB a b)))) H):=⟨fun h=>a0C (d1P a b ha.h) rfl rfl rfl h⟩
set_option maxRecDepth 100000 in
theorem l0y (a b:Ev)(ha:FitV a)(hb:FitV b):Con Tryz.prog 77 [evD a,evD b] [] fun r H'=>r=D.bool (eqB a b)∧H'=[]:=by
 haveI:Kn (a1T a.defs):=⟨ha.df⟩
 haveI:Kn (a1T b.defs):=⟨hb.df⟩
 haveI:Kn (a.data.length≤1000000):=⟨ha.1⟩
 clear ha hb
 suffices hh:∀ Q:D→List Row→Prop,Q (D.bool (eqB a b)) []→Con Tryz.prog 77 [evD a,evD b] [] Q from hh _ ⟨rfl,rfl⟩
 intro Q hQ
 obtain ⟨a1,a2,a3,a4,a5,a6,a7,a8,a9⟩:=a
 obtain ⟨b1,b2,b3,b4,b5,b6,b7,b8,b9⟩:=b
 dsimp only at *
 have hf:¬ ((⟨a1,a2,a3,a4,a5,a6,a7,a8,a9⟩:Ev)=⟨b1,b2,b3,b4,b5,b6,b7,b8,b9⟩)→Q (D.bool false) []:=fun h=>by rw [e0H h] at hQ;exact hQ
 have ht:a1=b1→a2=b2→a3=b3→a4=b4→a5=b5→a6=b6→a7=b7→a8=b8→Q (D.bool (eqB a9 b9)) []:=by
  rintro rfl rfl rfl rfl rfl rfl rfl rfl
  by_cases e9:a9=b9
  ·rw [d0q e9];rw [e9,u0v] at hQ;exact hQ
  ·rw [e0H e9];exact hf (fun e=>e9 (Ev.mk.inj e).2.2.2.2.2.2.2.2)
 clear hQ
 refine Con.walk good x0j (by simp) ?_
 unfold s0C
 simp only [a0J,evD]
 by_cases e8:a8=b8
 ·have h8:=d0q e8
  repeat' (with_reducible first|refine Wx.h ?_|refine Wb.h fun K hK=>?_|(refine hK _ ?_;clear hK K)|refine Wq.h ?_ ?_<;>intro h|((fail_if_success refine Wz.h ?_);simp (disch:=omega) only [↓LD,LA,a0A,seval,h8]))
  all_goals first
   | exact end1 rfl rfl (by kernel_rfl) .f (ht (by assumption) (by assumption) (by assumption) (by assumption) (by assumption) (by assumption) (by assumption) e8)
   | exact end1 rfl rfl (by kernel_rfl) .f (hf (by intro e;cases e;contradiction))
 ·have h8:=e0H e8
  repeat' (with_reducible first|refine Wx.h ?_|refine Wb.h fun K hK=>?_|(refine hK _ ?_;clear hK K)|refine Wq.h ?_ ?_<;>intro h|((fail_if_success refine Wz.h ?_);simp (disch:=omega) only [↓LD,LA,a0A,seval,h8]))
  all_goals exact end1 rfl rfl (by kernel_rfl) .f (hf (fun e=>e8 (Ev.mk.inj e).2.2.2.2.2.2.2.1))
instance {a b:Ev}{H:List Row}{K:D→List Row→Prop}[ha:Kn (FitV a)][hb:Kn (FitV b)]:Wa (a0S Tryz.prog (.fn 77 []) [eA a,eA b] H K) (K (.f (.v (.bool (eqB a b)))) H):=⟨fun h=>a0C (l0y a b ha.h hb.h) rfl rfl rfl h⟩
instance {a b:Ev}{H:List Row}{K:Bool→D→List Row→Prop}[ha:Kn (FitV a)][hb:Kn (FitV b)]:Wa (a0j Tryz.prog (.fn 77 []) [eA a,eA b] H K) (K true (.f (.v (.bool (eqB a b)))) H):=⟨fun h=>a0N (l0y a b ha.h hb.h) rfl rfl rfl h⟩
set_option maxRecDepth 100000 in
theorem z0N (l m:List Ev)(hl:FitL l)(hm:FitL m):Con Tryz.prog 81 [.f (fEv l),.f (fEv m),.fn 77 []] [] fun r H'=>r=D.bool (eqB l m)∧H'=[]:=by
 obtain ⟨hl,hln⟩:=hl
 obtain ⟨hm,hmn⟩:=hm
 refine Con.walk good y0A (by simp) ?_
 unfold o0g
 simp only [a0J]
 by_cases hlm:(l.length:Int)=m.length
 rotate_left
 ·repeat' (with_reducible first|refine Wx.h ?_|refine Wb.h fun K hK=>?_|(refine hK _ ?_;clear hK K)|(refine wF ?_ ?_;assumption)|((fail_if_success refine Wz.h ?_);simp (disch:=omega) only [↓LD,LA,a0A,seval,LEv]))
  rw [g0E hlm]
  exact end1 rfl rfl (by kernel_rfl) .f ⟨rfl,rfl⟩
 repeat' (with_reducible first|refine Wx.h ?_|refine Wb.h fun K hK=>?_|(refine hK _ ?_;clear hK K)|(refine wT ?_ ?_;assumption)|((fail_if_success refine Wz.h ?_);simp (disch:=omega) only [↓LD,LA,a0A,seval,LEv]))
 refine HS.loopG [1,2,15,16,17] (fun i:Nat=>⟨frm 32 [(1,.f (fEv m)),(2,.fn 77 []),(15,.f (fEv l)),(16,D.int l.length),(17,D.int i)],[],[]⟩) (fun i=>i≤l.length∧l.take i=m.take i) (fun i=>l.length-i) 0 (by kernel_rfl) ⟨Nat.zero_le _,rfl⟩ ?_
 rintro i ⟨hi,ht⟩
 by_cases hil:i<l.length
 ·haveI:Kn (FitV (gt l i)):=⟨hln _ (a0K hil)⟩
  haveI:Kn (FitV (gt m i)):=⟨hmn _ (a0K (by omega))⟩
  by_cases e:gt l i=gt m i
  ·have hb:=d0q e
   repeat' (with_reducible first|refine Wx.h ?_|refine Wb.h fun K hK=>?_|(refine hK _ ?_;clear hK K)|refine Wq.h ?_ ?_<;>intro h<;>try (exfalso;omega)|((fail_if_success refine Wz.h ?_);first|simp (disch:=omega) only [↓LD,LA,a0A,seval,LEv,b0W,a0L,Ev.cs,hb,List.map_cons,List.map_nil,-a0A]|(refine And.intro ?_ ?_;omega)|fail))
   exact Next.mk (i+1) (by kernel_rfl) ⟨by omega,d0E hlm hil ht e⟩ (by omega)
  ·have hb:=e0H e
   repeat' (with_reducible first|refine Wx.h ?_|refine Wb.h fun K hK=>?_|(refine hK _ ?_;clear hK K)|refine Wq.h ?_ ?_<;>intro h<;>try (exfalso;omega)|((fail_if_success refine Wz.h ?_);first|simp (disch:=omega) only [↓LD,LA,a0A,seval,LEv,b0W,a0L,Ev.cs,hb,List.map_cons,List.map_nil,-a0A]|(refine And.intro ?_ ?_;omega)|fail))
   rw [l0C e]
   exact end1 rfl rfl (by kernel_rfl) .f ⟨rfl,rfl⟩
 ·repeat' (with_reducible first|refine Wx.h ?_|refine Wb.h fun K hK=>?_|(refine hK _ ?_;clear hK K)|refine Wq.h ?_ ?_<;>intro h<;>try (exfalso;omega)|((fail_if_success refine Wz.h ?_);simp (disch:=omega) only [↓LD,LA,a0A,seval,LEv]))
  rw [g0U hlm ht (by omega)]
  exact end1 rfl rfl (by kernel_rfl) .f ⟨rfl,rfl⟩
theorem p0S (l m:List Ev)(hl:FitL l)(hm:FitL m):Con Tryz.prog 49 [.f (fEv l),.f (fEv m)] [] fun r H'=>r=D.bool (eqB l m)∧H'=[]:=by
 refine Con.walk good n0n (by simp) ?_
 unfold h0L
 simp only [a0J]
 repeat' (with_reducible first|refine Wx.h ?_|refine Wb.h fun K hK=>?_|(refine hK _ ?_;clear hK K)|((fail_if_success refine Wz.h ?_);simp (disch:=omega) only [↓LD,LA,a0A,seval]))
 refine a0C (z0N l m hl hm) rfl rfl rfl ?_
 repeat' (with_reducible first|refine Wx.h ?_|(refine hK _ ?_;clear hK K)|((fail_if_success refine Wz.h ?_);simp (disch:=omega) only [↓LD,LA,a0A,seval]))
 exact end1 rfl rfl (by kernel_rfl) .f ⟨rfl,rfl⟩
noncomputable def a0O:List Ev→List Ev→Nat
 | a :: l,b :: m=>if eqB a b=true then a0O l m+1 else 0
 | _,_=>0
theorem n0J:∀ (l m:List Ev),a0O l m≤l.length∧a0O l m≤m.length
 | a :: l,b :: m=>by
  have ih:=n0J l m
  unfold a0O
  split<;>simp<;>omega
 | [],m=>by simp [a0O]
 | a :: l,[]=>by simp [a0O]
set_option maxRecDepth 100000 in
theorem i0T (l m:List Ev)(hl:FitL l)(hm:FitL m):Con Tryz.prog 45 [.f (fEv l),.f (fEv m)] [] fun r H'=>r=D.int (a0O l m)∧H'=[]:=by
 obtain ⟨hl,hln⟩:=hl
 obtain ⟨hm,hmn⟩:=hm
 refine Con.walk good p0A (by simp) ?_
 unfold k0F
 simp only [a0J]
 repeat' (with_reducible first|refine Wx.h ?_|refine Wb.h fun K hK=>?_|(refine hK _ ?_;clear hK K)|((fail_if_success refine Wz.h ?_);simp (disch:=omega) only [↓LD,LA,a0A,seval,LEv]))
 refine HS.loopG [0,1,5] (fun i:Nat=>⟨frm 27 [(0,.f (fEv l)),(1,.f (fEv m)),(5,D.int i)],[],[]⟩) (fun i=>i≤l.length∧i≤m.length∧a0O l m=a0O (l.drop i) (m.drop i)+i) (fun i=>l.length-i) 0 (by kernel_rfl) ⟨Nat.zero_le _,Nat.zero_le _,rfl⟩ ?_
 rintro i ⟨hi,hj,ha⟩
 by_cases hil:i<l.length∧i<m.length
 ·obtain ⟨hil,him⟩:=hil
  haveI:Kn (FitV (gt l i)):=⟨hln _ (a0K hil)⟩
  haveI:Kn (FitV (gt m i)):=⟨hmn _ (a0K him)⟩
  rw [a0H hil,a0H him,a0O] at ha
  by_cases e:gt l i=gt m i
  ·have hb:=d0q e
   rw [if_pos hb] at ha
   repeat' (with_reducible first|refine Wx.h ?_|refine We.h fun K hK=>?_|refine Wd.h fun K M hK hM=>?_|(refine hK _ _ _ _ ?_;clear hK K;try clear hM M)|refine Wb.h fun K hK=>?_|(refine hK _ ?_;clear hK K)|(refine Wy.h ?_ ?_;kernel_rfl)|refine Wq.h ?_ ?_<;>intro h<;>try (exfalso;omega)|((fail_if_success refine Wz.h ?_);first|simp (disch:=omega) only [↓LD,LA,a0A,seval,LEv,b0W,a0L,Ev.cs,hb,List.map_cons,List.map_nil,-a0A]|(refine And.intro ?_ ?_;omega)|fail))
   all_goals exact Next.mk (i+1) (by kernel_rfl) ⟨by omega,by omega,by omega⟩ (by omega)
  ·have hb:=e0H e
   rw [if_neg (by rw [hb];simp)] at ha
   repeat' (with_reducible first|refine Wx.h ?_|refine We.h fun K hK=>?_|refine Wd.h fun K M hK hM=>?_|(refine hK _ _ _ _ ?_;clear hK K;try clear hM M)|refine Wb.h fun K hK=>?_|(refine hK _ ?_;clear hK K)|(refine Wy.h ?_ ?_;kernel_rfl)|refine Wq.h ?_ ?_<;>intro h<;>try (exfalso;omega)|((fail_if_success refine Wz.h ?_);first|simp (disch:=omega) only [↓LD,LA,a0A,seval,LEv,b0W,a0L,Ev.cs,hb,List.map_cons,List.map_nil,-a0A]|(refine And.intro ?_ ?_;omega)|fail))
   all_goals
    rw [ha,Nat.zero_add]
    exact end1 rfl rfl (by kernel_rfl) .f ⟨rfl,rfl⟩
 ·have h0:a0O (l.drop i) (m.drop i)=0:=by
   have h:=n0J (l.drop i) (m.drop i)
   rw [List.length_drop,List.length_drop] at h
   omega
  rw [h0,Nat.zero_add] at ha
  rw [ha]
  clear ha h0
  repeat' (with_reducible first|refine Wx.h ?_|refine We.h fun K hK=>?_|refine Wd.h fun K M hK hM=>?_|(refine hK _ _ _ _ ?_;clear hK K;try clear hM M)|(refine hM ?_;clear hM M;try clear hK K)|refine Wb.h fun K hK=>?_|(refine hK _ ?_;clear hK K)|(refine Wy.h ?_ ?_;kernel_rfl)|refine Wq.h ?_ ?_<;>intro h<;>try (exfalso;omega)|((fail_if_success refine Wz.h ?_);simp (disch:=omega) only [↓LD,LA,a0A,seval,LEv]))
  all_goals exact end1 rfl rfl (by kernel_rfl) .f ⟨rfl,rfl⟩
instance {l m:List Ev}{H:List Row}{K:D→List Row→Prop}[hl:Kn (FitL l)][hm:Kn (FitL m)]:Wa (a0S Tryz.prog (.fn 45 []) [.f (fEv l),.f (fEv m)] H K) (K (.f (.v (.int .i64 (a0O l m)))) H):=⟨fun h=>a0C (i0T l m hl.h hm.h) rfl rfl rfl h⟩
instance {l m:List Ev}{H:List Row}{K:D→List Row→Prop}[hl:Kn (FitL l)][hm:Kn (FitL m)]:Wa (a0S Tryz.prog (.fn 49 []) [.f (fEv l),.f (fEv m)] H K) (K (.f (.v (.bool (eqB l m)))) H):=⟨fun h=>a0C (p0S l m hl.h hm.h) rfl rfl rfl h⟩
instance {l m:List Ev}{H:List Row}{K:Bool→D→List Row→Prop}[hl:Kn (FitL l)][hm:Kn (FitL m)]:Wa (a0j Tryz.prog (.fn 45 []) [.f (fEv l),.f (fEv m)] H K) (K true (.f (.v (.int .i64 (a0O l m)))) H):=⟨fun h=>a0N (i0T l m hl.h hm.h) rfl rfl rfl h⟩
theorem g0u (l:List Ev)(hl:IdL l)(hk:(ofL l).length≤1000000):Con Tryz.prog 78 [.f (fEv l)] [] fun r H'=>r=D.int (a0Y (ofL l)).ver∧H'=[]:=by
 haveI:Kn (IdL l):=⟨hl⟩
 haveI:Kn ((ofL l).length≤1000000):=⟨hk⟩
 refine Con.walk good o0L (by simp) ?_
 unfold g0l
 simp only [a0J]
 repeat' (with_reducible first|refine Wx.h ?_|refine Wb.h fun K hK=>?_|(refine hK _ ?_;clear hK K)|((fail_if_success refine Wz.h ?_);simp (disch:=omega) only [↓LD,LA,a0A,seval]))
 exact end1 rfl rfl (by kernel_rfl) .f ⟨rfl,rfl⟩
noncomputable def h0T (l m:List Ev)(k:Int):Bool:=decide (k≤a0O l m)&&decide ((a0O l m:Int)<min l.length m.length)&&decide ((gt l (a0O l m)).ver=(gt m (a0O l m)).ver)
set_option maxRecDepth 100000 in
theorem x0Q (l m:List Ev)(k:Int)(hl:FitL l)(hm:FitL m):Con Tryz.prog 43 [.f (fEv l),.f (fEv m),D.int k] [] fun r H'=>r=D.bool (h0T l m k)∧H'=[]:=by
 haveI:Kn (FitL l):=⟨hl⟩
 haveI:Kn (FitL m):=⟨hm⟩
 have hl1:=hl.1
 have hm1:=hm.1
 refine Con.walk good t0o (by simp) ?_
 unfold k0v h0T
 simp only [a0J]
 generalize hn:a0O l m=n
 by_cases h1:k≤(n:Int)
 rotate_left
 ·rw [decide_eq_false h1]
  repeat' (with_reducible first|refine Wx.h ?_|refine We.h fun K hK=>?_|refine Wd.h fun K M hK hM=>?_|(refine hK _ _ _ _ ?_;clear hK K;try clear hM M)|(refine hM ?_;clear hM M;try clear hK K)|refine Wb.h fun K hK=>?_|(refine hK _ ?_;clear hK K)|(refine wF ?_ ?_;assumption)|(refine Wy.h ?_ ?_;kernel_rfl)|((fail_if_success refine Wz.h ?_);simp (disch:=omega) only [↓LD,LA,a0A,seval,LEv,hn]))
  all_goals exact end1 rfl rfl (by kernel_rfl) .f ⟨rfl,rfl⟩
 rw [decide_eq_true h1]
 by_cases h2:(n:Int)<min l.length m.length
 rotate_left
 ·rw [decide_eq_false h2]
  repeat' (with_reducible first|refine Wx.h ?_|refine We.h fun K hK=>?_|refine Wd.h fun K M hK hM=>?_|(refine hK _ _ _ _ ?_;clear hK K;try clear hM M)|(refine hM ?_;clear hM M;try clear hK K)|refine Wb.h fun K hK=>?_|(refine hK _ ?_;clear hK K)|(refine wT ?_ ?_;assumption)|(refine Wy.h ?_ ?_;kernel_rfl)|refine Wq.h ?_ ?_<;>intro h<;>try (exfalso;omega)|((fail_if_success refine Wz.h ?_);simp (disch:=omega) only [↓LD,LA,a0A,seval,LEv,hn]))
  all_goals exact end1 rfl rfl (by kernel_rfl) .f ⟨rfl,rfl⟩
 rw [decide_eq_true h2]
 have hnl:n<l.length:=by omega
 have hnm:n<m.length:=by omega
 by_cases h3:(gt l n).ver=(gt m n).ver
 ·rw [decide_eq_true h3]
  repeat' (with_reducible first|refine Wx.h ?_|refine We.h fun K hK=>?_|refine Wd.h fun K M hK hM=>?_|(refine hK _ _ _ _ ?_;clear hK K;try clear hM M)|refine Wb.h fun K hK=>?_|(refine hK _ ?_;clear hK K)|(refine wT ?_ ?_;assumption)|(refine Wy.h ?_ ?_;kernel_rfl)|refine Wq.h ?_ ?_<;>intro h<;>try (exfalso;omega)|((fail_if_success refine Wz.h ?_);first|simp (disch:=omega) only [↓LD,LA,a0A,seval,LEv,hn,a0L,f0I,Ev.cs]|(refine And.intro ?_ ?_;omega)|fail))
  all_goals exact end1 rfl rfl (by kernel_rfl) .f ⟨rfl,rfl⟩
 ·rw [decide_eq_false h3]
  repeat' (with_reducible first|refine Wx.h ?_|refine We.h fun K hK=>?_|refine Wd.h fun K M hK hM=>?_|(refine hK _ _ _ _ ?_;clear hK K;try clear hM M)|refine Wb.h fun K hK=>?_|(refine hK _ ?_;clear hK K)|(refine wT ?_ ?_;assumption)|(refine wF ?_ ?_;assumption)|(refine Wy.h ?_ ?_;kernel_rfl)|refine Wq.h ?_ ?_<;>intro h<;>try (exfalso;omega)|((fail_if_success refine Wz.h ?_);first|simp (disch:=omega) only [↓LD,LA,a0A,seval,LEv,hn,a0L,f0I,Ev.cs]|(refine And.intro ?_ ?_;omega)|fail))
  all_goals exact end1 rfl rfl (by kernel_rfl) .f ⟨rfl,rfl⟩
def d0z:SCode :=
  (jq ([.a 2 (.mv kN)]) (jq ([.a 3 (.mv kN)]) (.seq (jq ([jm 6 0,je 7 6,jk 8 0]) (.block 0 (.loop (jq ([jB 9 .lss 8 7]) (.seq (jc 9 .skip (.exit 0))
 (.seq (.block 1 (jq ([jx 10 9 6 8,jL 11 9 10,.a 5 (.alloc 73 [jI,jI,jI,jI,jI,jI,(.f (.v (.string ⟨#[]⟩))),jN,jN]),.n (.store 9 (.t 5) (.t
 11))]) (.ops (ap [jm 12 3,jL 13 9 5,.a 14 (.call (kC 68) [(.t 13)])] (ap [.a 15 (.bsl 73 9 1 [jI,jI,jI,jI,jI,jI,(.f (.v (.string ⟨#[]⟩))),jN,
 jN] [(0,(.t 14))]),.a 16 (.app 73 9 112 (.t 12) (.t 15))] [jm 3 16]))))) (.ops [jb 17 .add 8 1,jm 8 17]))))))) (jq ([jm 18 3,jm 2 18]) .ret))))
theorem f0S:Fn Tryz.prog 51 19 [.t 2] d0z:=.of Tryz.func51 (by kernel_rfl)
def h0F:SCode :=
  (jq ([.a 1 (.box 30 (.t 0)),.a 2 (.mv kN)]) (.seq (jq ([jo 3 0 1,jl 4 3,je 5 4,jb 6 .eql 5 0]) (jc 6 (jq ([.a 2 (.mv kN)]) .ret) .skip)) (jq ((ap
 [jo 7 0 1,jl 8 7,.a 9 (.idx 1 (.t 8) (kI 0)),jl 10 9,.a 11 (.call (kC 51) [(.t 10)])] [jm 2 11])) .ret)))
theorem n0X:Fn Tryz.prog 18 12 [.t 2] h0F:=.of Tryz.func18 (by kernel_rfl)
theorem c1A {e:Ev}(h:FitV e):FitN e.defs:=fun x hx=>by have:=h.2.2.2 x hx;omega
set_option maxRecDepth 100000 in
theorem h0d (l:List Ev)(hf:FitL l):Con Tryz.prog 51 [.f (fEv l)] [] fun r H'=>r = .f (fEv l)∧H'=[]:=by
 obtain ⟨hl,hln⟩:=hf
 refine Con.walk good f0S (by simp) ?_
 unfold d0z
 simp only [a0J]
 refine HS.seq ?_
 repeat' (with_reducible first|refine Wa.h ?_|refine Wb.h fun K hK=>?_|(refine hK _ ?_;clear hK K)|((fail_if_success refine Wz.h ?_);simp (disch:=omega) only [↓LD,LA,a0A,seval]))
 refine HS.seq ?_
 repeat' (with_reducible first|refine Wa.h ?_|refine Wb.h fun K hK=>?_|(refine hK _ ?_;clear hK K)|((fail_if_success refine Wz.h ?_);simp (disch:=omega) only [↓LD,LA,a0A,seval]))
 refine HS.view (View.void 73) ?_
 refine HS.view (View.slot 3 (.sl 0 0 0) (.no (by decide))) ?_
 repeat' (with_reducible first|refine Wx.h ?_|refine Wb.h fun K hK=>?_|(refine hK _ ?_;clear hK K)|((fail_if_success refine Wz.h ?_);simp (disch:=omega) only [↓LD,LA,a0A,seval,LEv]))
 refine HS.loopG [3,6,7,8] (fun i:Nat=>⟨frm 19 [(3,.sl 0 0 i),(6,.f (fEv l)),(7,D.int l.length),(8,D.int i)],[.data 73 ((l.take i).flatMap Ev.cs)],[]⟩) (fun i=>i≤l.length) (fun i=>l.length-i) 0 (by kernel_rfl) (Nat.zero_le _) ?_
 rintro i hi
 by_cases hil:i<l.length
 ·have hv:=hln _ (a0K hil)
  have hfn:=c1A hv
  obtain ⟨f1,f2,f3,f4⟩:=hv
  have hlen:((l.take i).flatMap Ev.cs).length=i*9:=by rw [a0L,List.length_take,Nat.min_eq_left hi]
  have ha:(l.take i).flatMap Ev.cs++Ev.cs (gt l i)=(l.take (i+1)).flatMap Ev.cs:=by
   rw [List.take_succ_eq_append_getElem hil,List.flatMap_append,←a0q hil];simp
  generalize hg:gt l i=e at *
  rw [Ev.cs] at ha
  repeat' (with_reducible first|refine Wx.h ?_|refine Wb.h fun K hK=>?_|(refine hK _ ?_;clear hK K)|refine Wq.h ?_ ?_<;>intro h<;>try (exfalso;omega)|((fail_if_success refine Wz.h ?_);first|simp (disch:=omega) only [↓LD,LA,a0A,seval,LEv,b0W,a0L,Ev.cs,hg,hlen,evD,ha,List.map_cons,List.map_nil,-a0A]|(refine And.intro ?_ ?_;omega)|fail))
  refine ⟨⟨hfn,by omega,by omega⟩,?_⟩
  repeat' (with_reducible first|refine Wx.h ?_|refine Wb.h fun K hK=>?_|(refine hK _ ?_;clear hK K)|((fail_if_success refine Wz.h ?_);first|simp (disch:=omega) only [↓LD,LA,a0A,seval,LEv,b0W,a0L,Ev.cs,hg,hlen,evD,ha,List.map_cons,List.map_nil,-a0A]|(refine And.intro ?_ ?_;omega)|fail))
  exact Next.mk (i+1) (by kernel_rfl) (by omega) (by omega)
 ·rw [List.take_of_length_le (by omega)]
  obtain rfl:i=l.length:=by omega
  repeat' (with_reducible first|refine Wx.h ?_|refine Wb.h fun K hK=>?_|(refine hK _ ?_;clear hK K)|refine Wq.h ?_ ?_<;>intro h<;>try (exfalso;omega)|((fail_if_success refine Wz.h ?_);simp (disch:=omega) only [↓LD,LA,a0A,seval]))
  exact end1 rfl rfl (by kernel_rfl) (b1U rfl rfl rfl) ⟨rfl,rfl⟩
instance {l:List Ev}{H:List Row}{K:D→List Row→Prop}[hl:Kn (FitL l)]:Wa (a0S Tryz.prog (.fn 51 []) [.f (fEv l)] H K) (K (.f (fEv l)) H):=⟨fun h=>a0C (h0d l hl.h) rfl rfl rfl h⟩
instance {l:List Ev}{H:List Row}{K:Bool→D→List Row→Prop}[hl:Kn (FitL l)]:Wa (a0j Tryz.prog (.fn 51 []) [.f (fEv l)] H K) (K true (.f (fEv l)) H):=⟨fun h=>a0N (h0d l hl.h) rfl rfl rfl h⟩
def curL (t:Br):List Ev:=if t.length=0 then [] else gt t 0
theorem TrK.cur {t:Br}(h:TrK t):BrOk (curL t):=by
 unfold curL
 split
 ·exact BrOk.nil
 ·exact (h.gt (by omega)).1
theorem r0i (t:Br)(ht:TrK t):Con Tryz.prog 18 [.ag [.f (fBr t)]] [] fun r H'=>r = .f (fEv (curL t))∧H'=[]:=by
 have hlen:=ht.len
 refine Con.walk good n0X (by simp) ?_
 unfold h0F
 simp only [a0J]
 by_cases hz:t.length=0
 ·rw [curL,if_pos hz]
  repeat' (with_reducible first|refine Wx.h ?_|refine Wb.h fun K hK=>?_|(refine hK _ ?_;clear hK K)|refine Wq.h ?_ ?_<;>intro h<;>try (exfalso;omega)|((fail_if_success refine Wz.h ?_);simp (disch:=omega) only [↓LD,LA,a0A,seval,LBr]))
  exact end1 rfl rfl (by kernel_rfl) .nil ⟨rfl,rfl⟩
 ·rw [curL,if_neg hz]
  haveI:Kn (FitL (gt t 0)):=⟨(ht.gt (by omega)).1.fitL⟩
  repeat' (with_reducible first|refine Wx.h ?_|refine Wb.h fun K hK=>?_|(refine hK _ ?_;clear hK K)|refine Wq.h ?_ ?_<;>intro h<;>try (exfalso;omega)|((fail_if_success refine Wz.h ?_);first|simp (disch:=omega) only [↓LD,LA,a0A,seval,LBr]|(refine And.intro ?_ ?_;omega)|fail))
  exact end1 rfl rfl (by kernel_rfl) .f ⟨rfl,rfl⟩
instance {t:Br}{H:List Row}{K:D→List Row→Prop}[ht:Kn (TrK t)]:Wa (a0S Tryz.prog (.fn 18 []) [.ag [.f (fBr t)]] H K) (K (.f (fEv (curL t))) H):=⟨fun h=>a0C (r0i t ht.h) rfl rfl rfl h⟩
set_option maxRecDepth 100000 in
theorem y0E (l:Br)(g:FuncId)(caps:List D)(H:List Row)(p:List Ev→Bool)(hl:l.length≤1000000)
  (hf:∀ x∈l,Con Tryz.prog g (.f (fEv x) :: caps) H fun r H'=>r=D.bool (p x)∧H'=H):Con Tryz.prog 76 [.f (fBr l),.fn g caps] H fun r H'=>r=D.int (idxF p 0 l)∧H'=H:=by
 refine Con.walk good j0e (by simp) ?_
 unfold g0F
 simp only [a0J]
 repeat' (with_reducible first|refine Wx.h ?_|refine Wb.h fun K hK=>?_|(refine hK _ ?_;clear hK K)|((fail_if_success refine Wz.h ?_);simp (disch:=omega) only [↓LD,LA,a0A,seval,LBr]))
 refine HS.loopP (fun x:Nat=>[(0,.f (fBr l)),(1,.fn g caps),(7,D.int l.length),(8,D.int x)]) (fun _=>H)
  (fun x=>x≤l.length∧idxF p 0 l=idxF p x (l.drop x)) (fun x=>l.length-x) 0 rfl (by kernel_rfl) ⟨Nat.zero_le _,rfl⟩ ?_
 rintro k ⟨hk,hr⟩
 repeat' (with_reducible first|refine Wx.h ?_|refine Wb.h fun K hK=>?_|(refine hK _ ?_;clear hK K)|refine Wq.h ?_ ?_<;>intro h|((fail_if_success refine Wz.h ?_);first|simp (disch:=omega) only [↓LD,LA,a0A,seval,LBr]|(refine And.intro ?_ ?_;omega)|fail))
 rotate_left
 ·refine endA rfl rfl ⟨congrArg D.int ?_,rfl⟩
  rw [hr,List.drop_of_length_le (by omega)];try rfl
 refine a0t (hf _ (a0K (by omega))) ?_
 rintro _ H' ⟨rfl,hH⟩
 rw [hH];clear hH H'
 repeat' (with_reducible first|refine Wx.h ?_|refine Wb.h fun K hK=>?_|(refine hK _ ?_;clear hK K)|refine Wq.h ?_ ?_<;>intro h|((fail_if_success refine Wz.h ?_);simp (disch:=omega) only [↓LD,LA,a0A,seval,D.bool]))
 ·refine endA rfl rfl ⟨congrArg D.int ?_,rfl⟩
  rw [hr,a0H (by omega),idxF,if_pos h]
 ·refine NextP.mk (k+1) rfl (by kernel_rfl) ?_ ?_
  ·refine ⟨by omega,?_⟩
   rw [hr,a0H (by omega),idxF,if_neg (by simp [h])]
  ·omega
theorem i0U (l:Br)(g:FuncId)(caps:List D)(H:List Row)(p:List Ev→Bool)(hl:l.length≤1000000)
  (hf:∀ x∈l,Con Tryz.prog g (.f (fEv x) :: caps) H fun r H'=>r=D.bool (p x)∧H'=H):Con Tryz.prog 41 [.f (fBr l),.fn g caps] H fun r H'=>r=D.bool (l.any p)∧H'=H:=by
 refine Con.walk good p0H (by simp) ?_
 unfold j0W
 simp only [a0J]
 repeat' (with_reducible first|refine Wx.h ?_|refine Wb.h fun K hK=>?_|(refine hK _ ?_;clear hK K)|((fail_if_success refine Wz.h ?_);simp (disch:=omega) only [↓LD,LA,a0A,seval]))
 refine a0t (y0E l g caps H p hl hf) ?_
 rintro _ H' ⟨rfl,hH⟩
 rw [hH];clear hH H'
 repeat' (with_reducible first|refine Wx.h ?_|refine Wb.h fun K hK=>?_|(refine hK _ ?_;clear hK K)|refine Wq.h ?_ ?_<;>intro h|((fail_if_success refine Wz.h ?_);simp (disch:=omega) only [↓LD,LA,a0A,seval,D.int]))
 all_goals
  refine endA rfl rfl ⟨congrArg D.bool ?_,rfl⟩
  rw [←f0v p 0 l];simp;omega
def bxB (l:List Ev):Row:=.box 25 [.f (fEv l)]
def bxI (k:Int):Row:=.box 3 [D.int k]
set_option maxRecDepth 100000 in
theorem z0B (x l:List Ev)(k:Int)(hx:FitL x)(hl:FitL l):Con Tryz.prog 42 [.f (fEv x),.pt 0 0,.pt 1 0] [bxB l,bxI k] fun r H'=>r=D.bool (h0T l x k)∧H'=[bxB l,bxI k]:=by
 have hc:=x0Q l x k hl hx
 refine Con.walk good x0B (by simp) ?_
 unfold o0r bxB bxI
 simp only [a0J]
 repeat' (with_reducible first|refine Wx.h ?_|refine Wb.h fun K hK=>?_|(refine hK _ ?_;clear hK K)|((fail_if_success refine Wz.h ?_);simp (disch:=omega) only [↓LD,LA,a0A,seval]))
 refine a0C hc rfl rfl rfl ?_
 repeat' (with_reducible first|refine Wx.h ?_|(refine hK _ ?_;clear hK K)|((fail_if_success refine Wz.h ?_);simp (disch:=omega) only [↓LD,LA,a0A,seval]))
 exact end1 rfl rfl (by kernel_rfl) .f ⟨rfl,rfl⟩
set_option maxRecDepth 100000 in
theorem z0d (x l:List Ev)(hx:FitL x)(hl:FitL l):Con Tryz.prog 44 [.f (fEv x),.pt 0 0] [bxB l] fun r H'=>r=D.bool (decide ((a0O l x:Int)=l.length))∧H'=[bxB l]:=by
 haveI:Kn (FitL x):=⟨hx⟩
 haveI:Kn (FitL l):=⟨hl⟩
 refine Con.walk good x0w (by simp) ?_
 unfold p0z bxB
 simp only [a0J]
 by_cases h:(a0O l x:Int)=l.length
 ·rw [decide_eq_true h]
  repeat' (with_reducible first|refine Wx.h ?_|refine We.h fun K hK=>?_|(refine hK _ _ _ _ ?_;clear hK K;try clear hM M)|refine Wb.h fun K hK=>?_|(refine hK _ ?_;clear hK K)|(refine wT ?_ ?_;assumption)|(refine Wy.h ?_ ?_;kernel_rfl)|((fail_if_success refine Wz.h ?_);simp (disch:=omega) only [↓LD,LA,a0A,seval,LEv]))
  all_goals exact end1 rfl rfl (by kernel_rfl) .f ⟨rfl,rfl⟩
 ·rw [decide_eq_false h]
  repeat' (with_reducible first|refine Wx.h ?_|refine We.h fun K hK=>?_|(refine hK _ _ _ _ ?_;clear hK K;try clear hM M)|refine Wb.h fun K hK=>?_|(refine hK _ ?_;clear hK K)|(refine wF ?_ ?_;assumption)|(refine Wy.h ?_ ?_;kernel_rfl)|((fail_if_success refine Wz.h ?_);simp (disch:=omega) only [↓LD,LA,a0A,seval,LEv]))
  all_goals exact end1 rfl rfl (by kernel_rfl) .f ⟨rfl,rfl⟩
set_option maxRecDepth 100000 in
theorem x0I (x l:List Ev)(hx:IdL x)(hl:IdL l)(hxk:(ofL x).length≤1000000)(hlk:(ofL l).length≤1000000):Con Tryz.prog 79 [.f (fEv x),.pt 0 0] [bxB l] fun r H'=>r=D.bool (decide (0<cmpI (ofL l) (ofL x)))∧H'=[bxB l]:=by
 haveI:Kn (IdL x):=⟨hx⟩
 haveI:Kn (IdL l):=⟨hl⟩
 haveI:Kn ((ofL x).length≤1000000):=⟨hxk⟩
 haveI:Kn ((ofL l).length≤1000000):=⟨hlk⟩
 refine Con.walk good s0R (by simp) ?_
 unfold l0D bxB
 simp only [a0J]
 by_cases h:0<cmpI (ofL l) (ofL x)
 ·rw [decide_eq_true h]
  repeat' (with_reducible first|refine Wx.h ?_|refine Wb.h fun K hK=>?_|(refine hK _ ?_;clear hK K)|(refine wT ?_ ?_;assumption)|((fail_if_success refine Wz.h ?_);simp (disch:=omega) only [↓LD,LA,a0A,seval]))
  all_goals exact end1 rfl rfl (by kernel_rfl) .f ⟨rfl,rfl⟩
 ·rw [decide_eq_false h]
  repeat' (with_reducible first|refine Wx.h ?_|refine Wb.h fun K hK=>?_|(refine hK _ ?_;clear hK K)|(refine wF ?_ ?_;assumption)|((fail_if_success refine Wz.h ?_);simp (disch:=omega) only [↓LD,LA,a0A,seval]))
  all_goals exact end1 rfl rfl (by kernel_rfl) .f ⟨rfl,rfl⟩
set_option maxRecDepth 100000 in
theorem i0F (t:Br)(ht:TrK t):Con Tryz.prog 46 [.ag [.f (fBr t)]] [] fun r H'=>r = .ag [.f (fBr t)]∧H'=[]:=by
 have htl:=ht.len
 refine Con.walk good o0t (by simp) ?_
 unfold h0w
 simp only [a0J]
 repeat' (with_reducible first|refine Wx.h ?_|refine Wb.h fun K hK=>?_|(refine hK _ ?_;clear hK K)|((fail_if_success refine Wz.h ?_);simp (disch:=omega) only [↓LD,LA,a0A,seval,LBr]))
 refine HS.view (View.void 25) ?_
 refine HS.view (View.bcell 2 0 (.sl 3 0 0) rfl rfl (.no (by show 3<4;omega))) ?_
 refine HS.loopG [2,3,7,8,9] (fun i:Nat=>⟨frm 22 [(2,.pt 0 0),(3,.pt 1 0),(7,.f (fBr t)),(8,D.int t.length),(9,D.int i)],[.box 30 [jN],.box 30 [.sl 2 0 i],.data 25 ((t.take i).map fEv)],[]⟩) (fun i=>i≤t.length) (fun i=>t.length-i) 0 (by kernel_rfl) (Nat.zero_le _) ?_
 rintro i hi
 by_cases hil:i<t.length
 ·obtain ⟨ok,ne⟩:=ht.gt hil
  haveI:Kn (FitL (gt t i)):=⟨ok.fitL⟩
  have hlen:((t.take i).map fEv).length=i:=by rw [List.length_map,List.length_take];omega
  have ha:(t.take i).map fEv++[fEv (gt t i)]=(t.take (i+1)).map fEv:=by rw [List.take_succ_eq_append_getElem hil,←a0q hil,u0F]
  repeat' (with_reducible first|refine Wx.h ?_|refine We.h fun K hK=>?_|(refine hK _ _ _ _ ?_;clear hK K;try clear hM M)|refine Wb.h fun K hK=>?_|(refine hK _ ?_;clear hK K)|(refine Wy.h ?_ ?_;kernel_rfl)|refine Wq.h ?_ ?_<;>intro h<;>try (exfalso;omega)|((fail_if_success refine Wz.h ?_);first|simp (disch:=omega) only [↓LD,LA,a0A,seval,LBr,hlen,ha]|(refine And.intro ?_ ?_;omega)|fail))
  all_goals exact Next.mk (i+1) (by kernel_rfl) (by omega) (by omega)
 ·rw [List.take_of_length_le (by omega)]
  obtain rfl:i=t.length:=by omega
  repeat' (with_reducible first|refine Wx.h ?_|refine Wb.h fun K hK=>?_|(refine hK _ ?_;clear hK K)|refine Wq.h ?_ ?_<;>intro h<;>try (exfalso;omega)|((fail_if_success refine Wz.h ?_);simp (disch:=omega) only [↓LD,LA,a0A,seval,LBr]))
  exact RetS.still (ds:=[.ag [.sl 2 0 t.length]]) (by kernel_rfl) (by kernel_rfl) (.ags (.cons (c1T rfl rfl rfl) .nil)) ⟨rfl,rfl⟩
set_option maxRecDepth 100000 in
theorem n0s (l:List Ev)(hf:FitL l):Con Tryz.prog 51 [.f (fEv l)] [] fun r H'=>r = .sl 0 0 l.length∧H'=[rEv l]:=by
 obtain ⟨hl,hln⟩:=hf
 refine Con.walk good f0S (by simp) ?_
 unfold d0z
 simp only [a0J]
 refine HS.seq ?_
 repeat' (with_reducible first|refine Wa.h ?_|refine Wb.h fun K hK=>?_|(refine hK _ ?_;clear hK K)|((fail_if_success refine Wz.h ?_);simp (disch:=omega) only [↓LD,LA,a0A,seval]))
 refine HS.seq ?_
 repeat' (with_reducible first|refine Wa.h ?_|refine Wb.h fun K hK=>?_|(refine hK _ ?_;clear hK K)|((fail_if_success refine Wz.h ?_);simp (disch:=omega) only [↓LD,LA,a0A,seval]))
 refine HS.view (View.void 73) ?_
 refine HS.view (View.slot 3 (.sl 0 0 0) (.no (by decide))) ?_
 repeat' (with_reducible first|refine Wx.h ?_|refine Wb.h fun K hK=>?_|(refine hK _ ?_;clear hK K)|((fail_if_success refine Wz.h ?_);simp (disch:=omega) only [↓LD,LA,a0A,seval,LEv]))
 refine HS.loopG [3,6,7,8] (fun i:Nat=>⟨frm 19 [(3,.sl 0 0 i),(6,.f (fEv l)),(7,D.int l.length),(8,D.int i)],[.data 73 ((l.take i).flatMap Ev.cs)],[]⟩) (fun i=>i≤l.length) (fun i=>l.length-i) 0 (by kernel_rfl) (Nat.zero_le _) ?_
 rintro i hi
 by_cases hil:i<l.length
 ·have hv:=hln _ (a0K hil)
  have hfn:=c1A hv
  obtain ⟨f1,f2,f3,f4⟩:=hv
  have hlen:((l.take i).flatMap Ev.cs).length=i*9:=by rw [a0L,List.length_take,Nat.min_eq_left hi]
  have ha:(l.take i).flatMap Ev.cs++Ev.cs (gt l i)=(l.take (i+1)).flatMap Ev.cs:=by
   rw [List.take_succ_eq_append_getElem hil,List.flatMap_append,←a0q hil];simp
  generalize hg:gt l i=e at *
  rw [Ev.cs] at ha
  repeat' (with_reducible first|refine Wx.h ?_|refine Wb.h fun K hK=>?_|(refine hK _ ?_;clear hK K)|refine Wq.h ?_ ?_<;>intro h<;>try (exfalso;omega)|((fail_if_success refine Wz.h ?_);first|simp (disch:=omega) only [↓LD,LA,a0A,seval,LEv,b0W,a0L,Ev.cs,hg,hlen,evD,ha,List.map_cons,List.map_nil,-a0A]|(refine And.intro ?_ ?_;omega)|fail))
  refine ⟨⟨hfn,by omega,by omega⟩,?_⟩
  repeat' (with_reducible first|refine Wx.h ?_|refine Wb.h fun K hK=>?_|(refine hK _ ?_;clear hK K)|((fail_if_success refine Wz.h ?_);first|simp (disch:=omega) only [↓LD,LA,a0A,seval,LEv,b0W,a0L,Ev.cs,hg,hlen,evD,ha,List.map_cons,List.map_nil,-a0A]|(refine And.intro ?_ ?_;omega)|fail))
  exact Next.mk (i+1) (by kernel_rfl) (by omega) (by omega)
 ·rw [List.take_of_length_le (by omega)]
  obtain rfl:i=l.length:=by omega
  repeat' (with_reducible first|refine Wx.h ?_|refine Wb.h fun K hK=>?_|(refine hK _ ?_;clear hK K)|refine Wq.h ?_ ?_<;>intro h<;>try (exfalso;omega)|((fail_if_success refine Wz.h ?_);simp (disch:=omega) only [↓LD,LA,a0A,seval]))
  exact endG rfl rfl (ef:=⟨.sl 0 0 l.length,[],[rEv l]⟩) (by kernel_rfl) ⟨rfl,rfl⟩
theorem e1m {x y:Im}:eqL [0,0] [.f (.v (.int .i64 x.id)),.f (.v (.int .i64 x.ver))] [.f (.v (.int .i64 y.id)),.f (.v (.int .i64 y.ver))]=some (eqB x y):=by
 simp only [eqL,eqV,if_true,Bool.and_true]
 obtain ⟨a1,a2⟩:=x
 obtain ⟨b1,b2⟩:=y
 congr 1
 by_cases e:(⟨a1,a2⟩:Im)=⟨b1,b2⟩
 ·rw [d0q e];cases e;simp
 ·rw [e0H e]
  by_cases e1:a1=b1
  ·have e2:¬ a2=b2:=fun e2=>e (by rw [e1,e2])
   simp [e2]
  ·simp [e1]
set_option maxRecDepth 100000 in
theorem z0c (l m:List Im)(hl:l.length≤1000000)(hm:m.length≤1000000):Con Tryz.prog 55 [.f (fIm l),.f (fIm m)] [] fun r H'=>r=D.bool (eqB l m)∧H'=[]:=by
 refine Con.walk good w0z (by simp) ?_
 unfold o0l
 simp only [a0J]
 by_cases hlm:(l.length:Int)=m.length
 rotate_left
 ·repeat' (with_reducible first|refine Wx.h ?_|refine Wb.h fun K hK=>?_|(refine hK _ ?_;clear hK K)|(refine wF ?_ ?_;assumption)|((fail_if_success refine Wz.h ?_);simp (disch:=omega) only [↓LD,LA,a0A,seval,LIm]))
  rw [g0E hlm]
  exact end1 rfl rfl (by kernel_rfl) .f ⟨rfl,rfl⟩
 repeat' (with_reducible first|refine Wx.h ?_|refine Wb.h fun K hK=>?_|(refine hK _ ?_;clear hK K)|(refine wT ?_ ?_;assumption)|((fail_if_success refine Wz.h ?_);simp (disch:=omega) only [↓LD,LA,a0A,seval,LIm]))
 refine HS.loopG [0,1,12,13] (fun i:Nat=>⟨frm 26 [(0,.f (fIm l)),(1,.f (fIm m)),(12,D.int l.length),(13,D.int i)],[],[]⟩) (fun i=>i≤l.length∧l.take i=m.take i) (fun i=>l.length-i) 0 (by kernel_rfl) ⟨Nat.zero_le _,rfl⟩ ?_
 rintro i ⟨hi,ht⟩
 by_cases hil:i<l.length
 ·have him:i<m.length:=by omega
  by_cases e:gt l i=gt m i
  ·have hb:=d0q e
   repeat' (with_reducible first|refine Wx.h ?_|refine We.h fun K hK=>?_|(refine hK _ _ _ _ ?_;clear hK K;try clear hM M)|refine Wb.h fun K hK=>?_|(refine hK _ ?_;clear hK K)|(refine Wy.h ?_ ?_;kernel_rfl)|refine Wq.h ?_ ?_<;>intro h<;>try (exfalso;omega)|((fail_if_success refine Wz.h ?_);first|simp (disch:=omega) only [↓LD,LA,a0A,seval,LIm,h0p,b0z,Im.cs,e1m,hb,Bool.not_true,List.map_cons,List.map_nil,-a0A]|(refine And.intro ?_ ?_;omega)|fail))
   all_goals exact Next.mk (i+1) (by kernel_rfl) ⟨by omega,d0E hlm hil ht e⟩ (by omega)
  ·have hb:=e0H e
   repeat' (with_reducible first|refine Wx.h ?_|refine We.h fun K hK=>?_|(refine hK _ _ _ _ ?_;clear hK K;try clear hM M)|refine Wb.h fun K hK=>?_|(refine hK _ ?_;clear hK K)|(refine Wy.h ?_ ?_;kernel_rfl)|refine Wq.h ?_ ?_<;>intro h<;>try (exfalso;omega)|((fail_if_success refine Wz.h ?_);first|simp (disch:=omega) only [↓LD,LA,a0A,seval,LIm,h0p,b0z,Im.cs,e1m,hb,Bool.not_false,List.map_cons,List.map_nil,-a0A]|(refine And.intro ?_ ?_;omega)|fail))
   all_goals
    rw [l0C e]
    exact end1 rfl rfl (by kernel_rfl) .f ⟨rfl,rfl⟩
 ·repeat' (with_reducible first|refine Wx.h ?_|refine Wb.h fun K hK=>?_|(refine hK _ ?_;clear hK K)|refine Wq.h ?_ ?_<;>intro h<;>try (exfalso;omega)|((fail_if_success refine Wz.h ?_);simp (disch:=omega) only [↓LD,LA,a0A,seval,LIm]))
  rw [g0U hlm ht (by omega)]
  exact end1 rfl rfl (by kernel_rfl) .f ⟨rfl,rfl⟩
instance {a b:List Im}{H:List Row}{K:D→List Row→Prop}[ha:Kn (a.length≤1000000)][hb:Kn (b.length≤1000000)]:Wa (a0S Tryz.prog (.fn 55 []) [.f (fIm a),.f (fIm b)] H K) (K (.f (.v (.bool (eqB a b)))) H):=⟨fun h=>a0C (z0c a b ha.h hb.h) rfl rfl rfl h⟩
theorem g1N (t:Br)(ht:TrK t):Con Tryz.prog 21 [.ag [.f (fBr t)],jN] [] fun r H'=>r = .tp [jN,D.bool true]∧H'=[]:=by
 refine Con.walk good g0D (by simp) ?_
 unfold f0i
 simp only [a0J]
 refine HS.seq ?_
 repeat' (with_reducible first|refine Wa.h ?_|refine Wb.h fun K hK=>?_|(refine hK _ ?_;clear hK K)|((fail_if_success refine Wz.h ?_);simp (disch:=omega) only [↓LD,LA,a0A,seval]))
 refine HS.seq ?_
 refine HS.view (View.slot 1 (.f (fIm [])) .ns) ?_
 haveI:Kn (([]:List Im).length≤1000000):=⟨by simp⟩
 repeat' (with_reducible first|refine Wx.h ?_|refine Wb.h fun K hK=>?_|(refine hK _ ?_;clear hK K)|((fail_if_success refine Wz.h ?_);simp (disch:=omega) only [↓LD,LA,a0A,seval,LIm,LBr]))
 refine RetS.still (ds:=[jN,D.bool true]) (by kernel_rfl) (by kernel_rfl) (.tps (.cons .f (.cons .f .nil))) ⟨rfl,rfl⟩
set_option maxRecDepth 100000 in
theorem z0D (t:Br)(pre:List Im)(ht:TrK t)(hp:pre.length≤1000000)(h0:¬ pre.length=0):Con Tryz.prog 21 [.ag [.f (fBr t)],.f (fIm pre)] [] fun r H'=>match d0p t pre with
  | none=>r = .tp [jN,D.bool false]∧H'=[]
  | some hd=>r = .tp [.sl 0 0 hd.length,D.bool true]∧H'=[rEv hd]:=by
 have htl:=ht.len
 have hfp:d0p t pre=(t.find? (f0C pre)).map fun b=>b.take (a0Y pre).id.toNat:=by unfold d0p;rw [if_neg h0]
 rw [hfp]
 haveI:Kn (pre.length≤1000000):=⟨hp⟩
 refine Con.walk good g0D (by simp) ?_
 unfold f0i
 simp only [a0J]
 repeat' (with_reducible first|refine Wx.h ?_|refine Wb.h fun K hK=>?_|(refine hK _ ?_;clear hK K)|refine Wq.h ?_ ?_<;>intro h<;>try (exfalso;omega)|((fail_if_success refine Wz.h ?_);simp (disch:=omega) only [↓LD,LA,a0A,seval,LIm,LBr]))
 refine HS.loopG [1,6,16,17,18] (fun i:Nat=>⟨frm 43 [(1,.f (fIm pre)),(6,D.int (a0Y pre).id),(16,.f (fBr t)),(17,D.int t.length),(18,D.int i)],[],[]⟩) (fun i=>i≤t.length∧t.find? (f0C pre)=(t.drop i).find? (f0C pre)) (fun i=>t.length-i) 0 (by kernel_rfl) ⟨Nat.zero_le _,rfl⟩ ?_
 rintro i ⟨hi,hF⟩
 by_cases hil:i<t.length
 rotate_left
 ·rw [List.drop_of_length_le (by omega)] at hF
  rw [hF]
  repeat' (with_reducible first|refine Wx.h ?_|refine Wb.h fun K hK=>?_|(refine hK _ ?_;clear hK K)|refine Wq.h ?_ ?_<;>intro h<;>try (exfalso;omega)|((fail_if_success refine Wz.h ?_);simp (disch:=omega) only [↓LD,LA,a0A,seval,LBr]))
  exact RetS.still (ds:=[jN,D.bool false]) (by kernel_rfl) (by kernel_rfl) (.tps (.cons .f (.cons .f .nil))) ⟨rfl,rfl⟩
 obtain ⟨ok,ne⟩:=ht.gt hil
 rw [a0H hil,List.find?_cons] at hF
 have hll:=ok.len
 generalize hb:gt t i=b at *
 have hno:f0C pre b=false→t.find? (f0C pre)=(t.drop (i+1)).find? (f0C pre):=fun h=>by rw [hF,h]
 have hyes:f0C pre b=true→t.find? (f0C pre)=some b:=fun h=>by rw [hF,h]
 clear hF
 by_cases h1:1≤(a0Y pre).id∧(a0Y pre).id≤b.length
 rotate_left
 ·have hn:=hno (by
   unfold f0C
   by_cases h2:1≤(a0Y pre).id
   ·rw [decide_eq_false (p:=(a0Y pre).id≤b.length) (fun h=>h1 ⟨h2,h⟩)];simp
   ·rw [decide_eq_false h2];rfl)
  repeat' (with_reducible first|refine Wx.h ?_|refine Wb.h fun K hK=>?_|(refine hK _ ?_;clear hK K)|refine Wq.h ?_ ?_<;>intro h<;>try (exfalso;omega)|((fail_if_success refine Wz.h ?_);first|simp (disch:=omega) only [↓LD,LA,a0A,seval,LIm,LBr,LEv,hb]|(refine And.intro ?_ ?_;omega)|fail))
  all_goals exact Next.mk (i+1) (by kernel_rfl) ⟨by omega,hn⟩ (by omega)
 obtain ⟨c,hc⟩:∃ c:Nat,(a0Y pre).id=c:=⟨(a0Y pre).id.toNat,by omega⟩
 simp only [hc] at h1 ⊢
 have hs:∀ H:List Row,subS H 9 73 (.f (fEv b)) 0 c=some (.f (fEv (b.take c))):=fun H=>f0P (by omega)
 have hok:=ok.take c
 haveI:Kn (IdL (b.take c)):=⟨hok.idL⟩
 haveI:Kn ((ofL (b.take c)).length≤1000000):=⟨hok.ofK⟩
 have hfe:f0C pre b=eqB (ofL (b.take c)) pre:=by
  unfold f0C
  rw [hc,decide_eq_true h1.1,decide_eq_true h1.2,Int.toNat_natCast];rfl
 rw [hfe] at hno hyes
 cases he:eqB (ofL (b.take c)) pre with
 | true =>
  rw [hyes he]
  repeat' (with_reducible first|refine Wx.h ?_|refine Wb.h fun K hK=>?_|(refine hK _ ?_;clear hK K)|refine Wq.h ?_ ?_<;>intro h<;>try (exfalso;omega)|((fail_if_success refine Wz.h ?_);first|simp (disch:=omega) only [↓LD,LA,a0A,seval,LIm,LBr,LEv,hb,hs,he,Int.toNat_natCast]|(refine And.intro ?_ ?_;omega)|fail))
  refine a0I (n0s (b.take c) hok.fitL) [] (by kernel_rfl) rfl rfl ?_
  rintro _ _ ⟨rfl,rfl⟩
  simp (disch:=omega) only [↓LD,LA,a0A,seval,ren,List.getElem?_nil,rEv]
  repeat' (with_reducible first|refine Wx.h ?_|(refine hK _ ?_;clear hK K)|((fail_if_success refine Wz.h ?_);simp (disch:=omega) only [↓LD,LA,a0A,seval]))
  exact h1O rfl rfl rfl rfl (ef:=⟨.tp [.sl 0 0 (b.take c).length,D.bool true],[],[rEv (b.take c)]⟩) (by kernel_rfl) ⟨rfl,rfl⟩
 | false =>
  have hn:=hno he
  repeat' (with_reducible first|refine Wx.h ?_|refine Wb.h fun K hK=>?_|(refine hK _ ?_;clear hK K)|refine Wq.h ?_ ?_<;>intro h<;>try (exfalso;omega)|((fail_if_success refine Wz.h ?_);first|simp (disch:=omega) only [↓LD,LA,a0A,seval,LIm,LBr,LEv,hb,hs,he,Int.toNat_natCast]|(refine And.intro ?_ ?_;omega)|fail))
  all_goals exact Next.mk (i+1) (by kernel_rfl) ⟨by omega,hn⟩ (by omega)
end Go.Proofs.YthjgmldnegaaiaaGreatDoor.Mir
namespace Go.Proofs.YthjgmldnegaaiaaGreatDoor
open Go Go.RowKit Go.Lib Go.Shelf Go.Proofs
theorem q0z:(Tryz.prog.info? 25).map (·.size)=some 1:=by kernel_rfl
theorem h1Y:∀ w,(Go.sizeOf 25).run Tryz.prog w = .ok 1 w:=fun w=>by
 obtain ⟨i,hi,hs⟩:=Option.map_eq_some_iff.1 q0z
 simp [Go.sizeOf,typeInfo,hi,hs]
set_option maxHeartbeats 4000000 in
set_option maxRecDepth 100000 in
theorem b1N (b off n c i vb voff m vc:Nat)(cs vs:List Value)(w:World)(hi:i<n)(hm:0<m)(hroom:n+m≤c)(hc63:n+m≤9223372036854775807)(hvb:vb≠b)
  (hcl:cs.length=n) (hvl:vs.length=m)
  (hcs:∀ j v,cs[j]?=some v→w.cell? ⟨b,off+j,none⟩=some v) (hsp:∀ j,j<n+m→(w.cell? ⟨b,off+j,none⟩).isSome=true) (hfz:∀ j,j<n+m→w.frozen? ⟨b,off+j,none⟩=false)
  (hvs:∀ j v,vs[j]?=some v→w.cell? ⟨vb,voff+j,none⟩=some v) (h1c:∀ v∈cs,v.oneCell'=true) (h1v:∀ v∈vs,v.oneCell'=true)
  (tA tB:TypeId) (kA kB:Nat) (hsa:w.shape? vb=some (tA,kA)) (hsb:w.shape? b=some (tB,kB)) (hkB:kB≠0) (hfa:w.frozen? ⟨vb,voff,none⟩=false) (hfe:w.frozen? ⟨vb,kA,none⟩=false) :
  Calls Tryz.prog 80 #[.slice (some ⟨b,off,none⟩) n c,.int .i64 i,.slice (some ⟨vb,voff,none⟩) m vc] w fun e w' =>
   e = .returned (.slice (some ⟨b,off,none⟩) (n+m) c)∧w'=(w.drew.setCells b (off+(i+m)) (cs.drop i)).setCells b (off+i) vs:=by
 have mixed:Tryz.prog.follows .mixedOrders=true:=by kernel_rfl
 have t24:Tryz.prog.underlying 28=some (.slice 25):=Tryz.underlying28
 have u24:=run_underlying t24
 have hz1:¬ ((m:Int)=0):=by omega
 have hz2:¬ ((i:Int)=(n:Int)):=by omega
 have hov:∀ lb cb,(callFunc 127 #[.slice (some ⟨vb,voff,none⟩) m vc,.slice (some ⟨b,off+(i+m),none⟩) lb cb]).run Tryz.prog w = .ok (.value (.bool false)) w:=fun lb cb=>by
  rw [run_callFunc_extern Tryz.func127 (by kernel_rfl) (by kernel_rfl) (by kernel_rfl) (e:=Extern.SlicesOverlaps.overlaps #[28,28] #[4]) (by kernel_rfl),
   Lib.run_overlaps_apart w 28 4 25 t24 1 h1Y ⟨vb,voff,none⟩ ⟨b,off+(i+m),none⟩ m vc lb cb hvb tA tB kA kB hsa hsb hkB hfa hfe]
  rfl
 have hdl:(cs.drop i).length=n-i:=by rw [List.length_drop,hcl]
 have hw1:IntKind.i64.wrap ((i:Int)+(m:Int))=(i:Int)+(m:Int):=by rw [IntKind.wrap_i64];omega
 have hb1:(0:Int)≤(i:Int)+(m:Int):=by omega
 have hin:i≤n:=by omega
 have htn:((i:Int)+(m:Int)).toNat=i+m:=by omega
 have hb2:¬ (c=i+m):=by omega
 have hb3:(i:Int)≤(n:Int)+(m:Int):=by omega
 have hb4:¬ (c=i):=by omega
 have hcp1:∀ ty dc sc,(Builtin.copy_ #[28,28] ty #[.slice (some ⟨b,off+(i+m),none⟩) (n+m-(i+m)) dc,.slice (some ⟨b,off+i,none⟩) (n+m-i) sc]).run Tryz.prog w.drew = .ok (goInt (cs.drop i).length) (w.drew.setCells b (off+(i+m)) (cs.drop i)):=fun ty dc sc =>
  run_copy_cells w.drew _ _ ty 25 b (off+(i+m)) (n+m-(i+m)) dc ⟨b,off+i,none⟩ (n+m-i) sc (cs.drop i) t24 q0z (by rw [hdl];simp only [Nat.min_def];split<;>omega)
   (fun j v hj=>by rw [Addr.add_lit,Nat.add_assoc];exact hcs (i+j) v (by rwa [List.getElem?_drop] at hj))
   (fun j hj=>by rw [Nat.add_assoc];exact hsp _ (by omega)) (fun j hj=>by rw [Nat.add_assoc];exact hfz _ (by omega)) (fun v hv=>h1c v (List.mem_of_mem_drop hv))
 obtain ⟨W1,hW1⟩:∃ W1,W1=w.drew.setCells b (off+(i+m)) (cs.drop i):=⟨_,rfl⟩
 have hsp1:∀ k,k<n+m→(W1.cell? ⟨b,off+k,none⟩).isSome=true:=fun k hk=>by
  rw [hW1]
  exact isSome_setCells b _ _ _ (fun j hj=>by rw [Nat.add_assoc];exact hsp _ (by omega)) _ (hsp k hk)
 have hcp2:∀ (W:World),(∀ x,W.cell? x=W1.cell? x)→(∀ x,W.frozen? x=W1.frozen? x)→∀ ty dc,(Builtin.copy_ #[28,28] ty #[.slice (some ⟨b,off+i,none⟩) (n+m-i) dc,.slice (some ⟨vb,voff,none⟩) m vc]).run Tryz.prog W = .ok (goInt vs.length) (W.setCells b (off+i) vs):=fun W hWc hWf ty dc =>
  run_copy_cells W _ _ ty 25 b (off+i) (n+m-i) dc ⟨vb,voff,none⟩ m vc vs t24 q0z (by rw [hvl];simp only [Nat.min_def];split<;>omega)
   (fun j v hj=>by
    rw [Addr.add_lit,hWc,hW1,World.cell?_setCells_out b _ _ _ _ (fun h _=>absurd h hvb)]
    exact hvs j v hj)
   (fun j hj=>by rw [hWc,Nat.add_assoc];exact hsp1 _ (by omega)) (fun j hj=>by rw [hWf,hW1,World.frozen?_setCells,Nat.add_assoc];exact hfz _ (by omega)) h1v
 rw [←hW1] at hcp1
 go_enter Tryz.func80,Tryz.ntmps80
 go_wp2_with (simp only [hov])
 go_region_law_o (refine step_copy_runI rfl _ _ 28 28 rfl _ _ (by simp [Act.eval,Act.put]) (by simp [Act.eval,Act.put]) (hcp1 _ _ _) ?_)
 go_wp2_with (at_builtin;refine wpList_copy_runI _ rfl _ _ 28 28 rfl _ _ rfl rfl (hcp2 _ (fun _=>rfl) (fun _=>rfl) _ _) ?_)
 go_ret
 first|exact ⟨rfl,rfl⟩|exact ⟨rfl,by rw [hW1]⟩
set_option maxHeartbeats 4000000 in
set_option maxRecDepth 100000 in
theorem c1w (b off n c i vb voff m vc:Nat)(cs vs:List Value)(w:World)(hi:i<n)(hm:0<m)(hnc:n≤c)(hroom:c<n+m)(hbig:(n+m)*24≤140737488355328)
  (hcl:cs.length=n) (hvl:vs.length=m)
  (hcs:∀ j v,cs[j]?=some v→w.cell? ⟨b,off+j,none⟩=some v)
  (hvs:∀ j v,vs[j]?=some v→w.cell? ⟨vb,voff+j,none⟩=some v) (h1c:∀ v∈cs,v.oneCell'=true) (h1v:∀ v∈vs,v.oneCell'=true) :
  Calls Tryz.prog 80 #[.slice (some ⟨b,off,none⟩) n c,.int .i64 i,.slice (some ⟨vb,voff,none⟩) m vc] w fun e w' =>
   e = .returned (.slice (some ⟨w.heap.size,0,none⟩) (n+m) (grownCap w (n+m) c 25)) ∧
   w'=(((w.alloc (.cells ((cs.take i).toArray++Builtin.zeroCells (Value.slice none 0 0).cells (n+m-i)++Builtin.zeroCells (Value.slice none 0 0).cells (grownCap w (n+m) c 25-(n+m))) 25)).drew.setCells w.heap.size i vs).drew).setCells w.heap.size (i+m) (cs.drop i):=by
 have mixed:Tryz.prog.follows .mixedOrders=true:=by kernel_rfl
 have t24:Tryz.prog.underlying 28=some (.slice 25):=Tryz.underlying28
 have t3:Tryz.prog.underlying 3=some (.int .i64):=Tryz.underlying3
 obtain ⟨i0,hi0,hz0,hzs,hzb⟩:=info_parts (show (Tryz.prog.info? 25).map (fun i=>(i.zero,i.size,i.bytes))=some (some (Value.slice none 0 0),1,24) by kernel_rfl)
 have hz1:¬ ((m:Int)=0):=by omega
 have hz2:¬ ((i:Int)=(n:Int)):=by omega
 have hz3:(c:Int)<(n:Int)+(m:Int):=by omega
 have hsz:=q0z
 have hbw:b<w.heap.size:=block_lt_of_cell (hcs 0 _ (List.getElem?_eq_getElem (by omega)))
 have hvw:vb<w.heap.size:=block_lt_of_cell (hvs 0 _ (List.getElem?_eq_getElem (by omega)))
 have hkk:(n:Int)+(m:Int)-(i:Int)=((n+m-i:Nat):Int):=by omega
 have hik:i+(n+m-i)=n+m:=by omega
 have hold:(Builtin.firstCells i0.size i (.slice (some ⟨b,off,none⟩) i c)).run Tryz.prog w.drew = .ok (cs.take i).toArray w.drew:=by
  rw [hzs]
  exact run_firstCells_some w.drew 1 i ⟨b,off,none⟩ i c (cs.take i) (by rw [List.length_take];omega) (fun j v hj=>by
   rw [Addr.add_lit]
   rw [List.getElem?_take] at hj
   split at hj
   ·exact hcs j v hj
   ·cases hj)
 have hrz:∀ ty,(Builtin.append_ #[28,3] ty #[.slice (some ⟨b,off,none⟩) i c,.int .i64 ((n:Int)+(m:Int)-(i:Int))]).run Tryz.prog w =
   .ok (.slice (some ⟨w.heap.size,0,none⟩) (n+m) (grownCap w (n+m) c 25)) (w.drew.alloc (.cells ((cs.take i).toArray++Builtin.zeroCells (Value.slice none 0 0).cells (n+m-i)++Builtin.zeroCells (Value.slice none 0 0).cells (grownCap w (n+m) c 25-(n+m))) 25)):=fun ty=>by
  have h:=Lib.run_append_grow_zeros w 28 3 ty 25 i0 _ .i64 .i64 t24 t3 hi0 hz0 (some ⟨b,off,none⟩) i c (cs.take i) hold (n+m-i) (by omega) (by omega) (by omega) (by omega) (by rw [hzb];omega) (by rw [hzb,hik];exact growslice_fits hroom hbig)
  rw [hik] at h
  rw [hkk]
  exact h
 obtain ⟨G,hG⟩:∃ G,G=grownCap w (n+m) c 25:=⟨_,rfl⟩
 obtain ⟨ROW,hROW⟩:∃ ROW:Array Value,ROW=(cs.take i).toArray++Builtin.zeroCells (Value.slice none 0 0).cells (n+m-i)++Builtin.zeroCells (Value.slice none 0 0).cells (G-(n+m)):=⟨_,rfl⟩
 rw [←hG] at hrz ⊢
 rw [←hROW] at hrz ⊢
 have hRl:n+m≤ROW.size:=by
  rw [hROW]
  simp [Builtin.zeroCells,Value.cells]
  omega
 obtain ⟨W1,hW1⟩:∃ W1,W1=w.drew.alloc (.cells ROW 25):=⟨_,rfl⟩
 rw [←hW1] at hrz
 have hN:∀ j,j<n+m→(W1.cell? ⟨w.heap.size,j,none⟩).isSome=true:=fun j hj=>by
  rw [hW1,World.cell?_alloc_at (w:=w.drew) ROW _ w.heap.size j rfl,Array.getElem?_eq_getElem (by omega)];rfl
 have hNf:∀ j,W1.frozen? ⟨w.heap.size,j,none⟩=false:=fun j=>by rw [hW1];exact World.frozen?_alloc_at (w:=w.drew) ROW _ w.heap.size j rfl
 have hOb:∀ j v,w.cell? ⟨b,j,none⟩=some v→W1.cell? ⟨b,j,none⟩=some v:=fun j v h=>by rw [hW1,World.cell?_alloc_past (w:=w.drew) _ b j hbw];exact h
 have hOv:∀ j v,w.cell? ⟨vb,j,none⟩=some v→W1.cell? ⟨vb,j,none⟩=some v:=fun j v h=>by rw [hW1,World.cell?_alloc_past (w:=w.drew) _ vb j hvw];exact h
 have hcpA:∀ (W:World),(∀ x,W.cell? x=W1.cell? x)→(∀ x,W.frozen? x=W1.frozen? x)→∀ ty dc,(Builtin.copy_ #[28,28] ty #[.slice (some ⟨w.heap.size,i,none⟩) (n+m-i) dc,.slice (some ⟨vb,voff,none⟩) m vc]).run Tryz.prog W = .ok (goInt vs.length) (W.setCells w.heap.size i vs):=fun W hWc hWf ty dc =>
  run_copy_cells W _ _ ty 25 w.heap.size i (n+m-i) dc ⟨vb,voff,none⟩ m vc vs t24 hsz (by rw [hvl];simp only [Nat.min_def];split<;>omega)
   (fun j v hj=>by rw [Addr.add_lit,hWc];exact hOv _ v (hvs j v hj))
   (fun j hj=>by rw [hWc];exact hN _ (by omega)) (fun j hj=>by rw [hWf];exact hNf _) h1v
 have hGn:n+m≤G:=by rw [hG];exact grownCap_ge w _ _ _
 have hG63:G≤9223372036854775807:=by
  have:=grownCap_le_maxLen w (n+m) c 25 (by unfold maxLen;omega)
  rw [←hG] at this
  unfold maxLen at this
  omega
 have hGi:¬ (G=i):=by omega
 have hGim:¬ (G=i+m):=by omega
 have hci:¬ (c=i):=by omega
 have hbN:b≠w.heap.size:=by omega
 have hdl:(cs.drop i).length=n-i:=by rw [List.length_drop,hcl]
 have hcpB:∀ (W:World),(∀ x,W.cell? x=(W1.setCells w.heap.size i vs).cell? x)→(∀ x,W.frozen? x=(W1.setCells w.heap.size i vs).frozen? x)→∀ ty dc sc,(Builtin.copy_ #[28,28] ty #[.slice (some ⟨w.heap.size,i+m,none⟩) (n+m-(i+m)) dc,.slice (some ⟨b,off+i,none⟩) (n-i) sc]).run Tryz.prog W = .ok (goInt (cs.drop i).length) (W.setCells w.heap.size (i+m) (cs.drop i)):=fun W hWc hWf ty dc sc =>
  run_copy_cells W _ _ ty 25 w.heap.size (i+m) (n+m-(i+m)) dc ⟨b,off+i,none⟩ (n-i) sc (cs.drop i) t24 hsz (by rw [hdl];simp only [Nat.min_def];split<;>omega)
   (fun j v hj=>by
    rw [Addr.add_lit,hWc,World.cell?_setCells_out _ _ _ _ _ (fun h _=>absurd h hbN),Nat.add_assoc]
    exact hOb _ v (hcs (i+j) v (by rwa [List.getElem?_drop] at hj)))
   (fun j hj=>by rw [hWc];exact isSome_setCells _ _ _ _ (fun t ht=>hN _ (by omega)) _ (hN _ (by omega)))
   (fun j hj=>by rw [hWf,World.frozen?_setCells];exact hNf _) (fun v hv=>h1c v (List.mem_of_mem_drop hv))
 subst hW1
 have hE1:∀ x,((w.alloc (.cells ROW 25)).drew).cell? x=(w.drew.alloc (.cells ROW 25)).cell? x:=fun x=>rfl
 have hE2:∀ x,((w.alloc (.cells ROW 25)).drew).frozen? x=(w.drew.alloc (.cells ROW 25)).frozen? x:=fun x=>rfl
 have hF1:∀ x,(((w.alloc (.cells ROW 25)).drew.setCells w.heap.size i vs).drew).cell? x=((w.drew.alloc (.cells ROW 25)).setCells w.heap.size i vs).cell? x:=fun x=>rfl
 have hF2:∀ x,(((w.alloc (.cells ROW 25)).drew.setCells w.heap.size i vs).drew).frozen? x=((w.drew.alloc (.cells ROW 25)).setCells w.heap.size i vs).frozen? x:=fun x=>rfl
 have hw1:IntKind.i64.wrap ((i:Int)+(m:Int))=(i:Int)+(m:Int):=by rw [IntKind.wrap_i64];omega
 have hb1:(0:Int)≤(i:Int)+(m:Int):=by omega
 have hin:i≤n:=by omega
 have htn:((i:Int)+(m:Int)).toNat=i+m:=by omega
 have hb3:(i:Int)≤(n:Int):=by omega
 clear hkk hik hold hROW hG hRl
 go_enter Tryz.func80,Tryz.ntmps80
 go_wp2_with (first
  | (at_builtin;refine Lib.wpList_append_run _ rfl _ _ _ _ rfl _ _ rfl rfl _ _ (hrz _) ?_)
  | (at_builtin;refine wpList_copy_runI _ rfl _ _ 28 28 rfl _ _ rfl rfl (hcpA _ hE1 hE2 _ _) ?_)
  | (at_builtin;refine wpList_copy_runI _ rfl _ _ 28 28 rfl _ _ rfl rfl (hcpB _ (fun _=>rfl) (fun _=>rfl) _ _ _) ?_))
 go_region_law_o (refine step_copy_runI rfl _ _ 28 28 rfl (.slice (some ⟨w.heap.size,i+m,none⟩) (n+m-(i+m)) (G-(i+m))) (.slice (some ⟨b,off+i,none⟩) (n-i) (c-i)) (by simp [Act.eval,Act.put]) (by simp [Act.eval,Act.put]) (hcpB _ hF1 hF2 3 (G-(i+m)) (c-i)) ?_)
 go_wp2
 go_ret
 exact ⟨rfl,rfl⟩
end Go.Proofs.YthjgmldnegaaiaaGreatDoor
namespace Go.Proofs.YthjgmldnegaaiaaGreatDoor.Mir
open Go Go.RowKit
theorem d1i {P:Program}{f:FuncId}(h:((P.funcs[f]?).bind fun fn=>fn.body).isSome=true):∃ fn,P.funcs[f]?=some fn∧fn.body.isSome=true:=by
 cases hf:P.funcs[f]? with
 | none=>rw [hf] at h;cases h
 | some fn=>rw [hf] at h;exact ⟨fn,rfl,h⟩
end Go.Proofs.YthjgmldnegaaiaaGreatDoor.Mir
namespace Go.Proofs.YthjgmldnegaaiaaGreatDoor.Mir
open Go Go.RowKit Go.Lib Go.Proofs
set_option maxHeartbeats 4000000
theorem a1D {a:Array Obj}{b:Nat}{f g:Obj→Obj}{x:Obj}(h:a[b]?=some x)(e:f x=g x):a.modify b f=a.modify b g:=by
 apply Array.ext (by simp)
 intro i h1 h2
 rw [Array.getElem_modify,Array.getElem_modify]
 split
 ·rename_i hi
  subst hi
  obtain ⟨hb,hx⟩:=Array.getElem?_eq_some_iff.1 h
  rw [hx,e]
 ·rfl
theorem s0Q {w:World}{b:Nat}{A C:List Value}{y v:Value}{T:TypeId}{fr:Nat × Nat}(h:w.heap[b]?=some (.cells (A++y :: C).toArray T fr)):w.setCell ⟨b,A.length,none⟩ v=w.setRow b (A++v :: C).toArray:=by
 unfold World.setCell World.setRow
 congr 1
 refine a1D h ?_
 simp
theorem f0u {w:World}{b:Nat}{x y:Array Value}:(w.setRow b x).setRow b y=w.setRow b y:=by
 unfold World.setRow
 congr 1
 apply Array.ext (by simp)
 intro i h1 h2
 simp only [Array.getElem_modify]
 split
 ·rename_i hi
  subst hi
  cases w.heap[b]'(by simpa using h2)<;>rfl
 ·rfl
theorem t0q {w:World}{b:Nat}{x:Array Value}{T:TypeId}{fr:Nat × Nat}(h:w.heap[b]?=some (.cells x T fr)):w.setRow b x=w:=by
 obtain ⟨hb,hx⟩:=Array.getElem?_eq_some_iff.1 h
 have:(w.setRow b x).heap=w.heap:=by
  unfold World.setRow
  apply Array.ext (by simp)
  intro i h1 h2
  simp only [Array.getElem_modify]
  split
  ·rename_i hi
   subst hi
   rw [hx]
  ·rfl
 have e:w.setRow b x={ w with heap:=(w.setRow b x).heap }:=rfl
 rw [e,this]
theorem c0N {b:Nat}{T:TypeId}{fr:Nat × Nat}:∀ {vs B A C:List Value} {w:World},B.length=vs.length→w.heap[b]?=some (.cells (A++B++C).toArray T fr)→w.setCells b A.length vs=w.setRow b (A++vs++C).toArray
 | [],B,A,C,w,hl,h=>by
  obtain rfl:=List.eq_nil_of_length_eq_zero hl
  exact (t0q h).symm
 | v :: r,[],A,C,w,hl,h=>by simp at hl
 | v :: r,y :: B,A,C,w,hl,h=>by
  have h1:w.heap[b]?=some (.cells (A++y :: (B++C)).toArray T fr):=by rw [h];simp
  rw [World.setCells,s0Q h1]
  have h2:(w.setRow b (A++v :: (B++C)).toArray).heap[b]?=some (.cells ((A++[v])++B++C).toArray T fr):=by
   rw [setRow_heap w b _ _ _ _ h1];simp
  have:=c0N (vs:=r) (B:=B) (A:=A++[v]) (C:=C) (by simpa using hl) h2
  rw [List.length_append,List.length_singleton] at this
  rw [this,f0u]
  simp
theorem inf1:∃ i,Tryz.prog.info? 25=some i∧i.size=1:=Option.map_eq_some_iff.1 q0z
set_option maxRecDepth 100000 in
theorem p0l (t:Br)(i:Nat)(l:List Ev)(hi:i<t.length)(ht:t.length≤1000):Con Tryz.prog 80 [.sl 0 0 t.length,D.int i,.sl 1 0 1] [.data 25 (t.map fEv),.data 25 [fEv l]] fun r H' =>
  r = .sl 2 0 (t.length+1)∧H'=[.dead,.data 25 [fEv l],.data 25 ((t.take i++l :: t.drop i).map fEv)]:=by
 refine ⟨d1i (by kernel_rfl),fun w φ X vs hH ha=>?_⟩
 have hl0:(Row.data 25 (t.map fEv)).live=true:=a0k (fun e=>by rw [List.map_eq_nil_iff] at e;subst e;simp at hi)
 have hl1:(Row.data 25 [fEv l]).live=true:=rfl
 obtain ⟨v0,v1,v2,rfl⟩:∃ v0 v1 v2,vs = #[v0,v1,v2]:=by
  obtain ⟨vs⟩:=vs
  have:=ha.1
  match vs,this with
  | [a,b,c],_=>exact ⟨a,b,c,rfl⟩
 have r0:=ha.2 0 _ _ rfl rfl
 have r1:=ha.2 1 _ _ rfl rfl
 have r2:=ha.2 2 _ _ rfl rfl
 obtain ⟨n,hnt⟩:∃ n,n=t.length:=⟨_,rfl⟩
 obtain ⟨xs,hxs⟩:∃ xs,xs=t.map fEv:=⟨_,rfl⟩
 have hxl:xs.length=n:=by rw [hxs,hnt,List.length_map]
 have hout:(t.take i++l :: t.drop i).map fEv=xs.take i++fEv l :: xs.drop i:=by rw [hxs,List.map_append,List.map_cons,List.map_take,List.map_drop]
 rw [hout]
 rw [←hnt] at r0 hi ht ⊢
 rw [←hxs] at hl0 hH ha ⊢
 clear hout hxs hnt ha
 have hne:xs≠[]:=fun e=>by subst e;simp at hxl;omega
 cases r1 with|f r1=>cases r1 with|v _ =>
 cases r0 with
 | sl0=>omega
 | @sl _ _ _ cap cs0 T0 fr0 i0 hn hr hnc hb0 hi0 hc0 =>
 cases r2 with
 | @sl _ _ _ cap1 cs1 T1 fr1 i1 hn1 hr1 hnc1 hb1 hi1 hc1 =>
 obtain ⟨pre,us,post,g1,g2,g3⟩:=hH.rows 0 _ rfl hne
 obtain ⟨pre1,us1,post1,k1,k2,k3⟩:=hH.rows 1 _ rfl (fun e=>by cases e)
 have hul:us.length=n:=g3.1.trans hxl
 obtain ⟨u,rfl⟩:∃ u,us1=[u]:=by
  have:=k3.1
  match us1,this with
  | [u],_=>exact ⟨u,rfl⟩
 rw [g1] at hb0
 injection hb0 with hb0
 injection hb0 with e1 e2 e3
 subst e1;subst e2;subst e3
 obtain ⟨j0,hj1,hj2⟩:=inf1
 rw [hj1] at hi0
 injection hi0 with hi0
 subst hi0
 rw [hj2,Nat.mul_one,Nat.add_zero] at hc0
 have hsz:(pre++us++post).toArray.size=(φ 0).2+n+post.length:=by simp [hul,g2];omega
 rw [hsz] at hc0
 have hvb:(φ 1).1≠(φ 0).1:=fun e=>by have:=hH.apart 1 0 _ _ rfl rfl hl1 hl0 e;omega
 have hcell:∀ j v,us[j]?=some v→w.cell? ⟨(φ 0).1,(φ 0).2+0+j,none⟩=some v:=fun j v hj=>by
  have:=(List.getElem?_eq_some_iff.1 hj).1
  rw [g0L g1,←g2]
  simp only [List.getElem?_toArray]
  rw [List.append_assoc,List.getElem?_append_right (by omega),List.getElem?_append_left (by omega),show pre.length+0+j-pre.length=j by omega]
  exact hj
 have hcell1:∀ j v,[u][j]?=some v→w.cell? ⟨(φ 1).1,(φ 1).2+0+j,none⟩=some v:=fun j v hj=>by
  have:=(List.getElem?_eq_some_iff.1 hj).1
  rw [g0L k1,←k2]
  simp only [List.getElem?_toArray]
  rw [List.append_assoc,List.getElem?_append_right (by omega),List.getElem?_append_left (by simpa using this),show pre1.length+0+j-pre1.length=j by omega]
  exact hj
 have h1c:∀ v∈us,v.oneCell'=true:=fun v hv=>by
  obtain ⟨j,hj,rfl⟩:=List.getElem_of_mem hv
  exact (g3.2 j _ _ (List.getElem?_eq_getElem (by rw [←g3.1];exact hj)) (List.getElem?_eq_getElem hj)).one
 have h1u:∀ v∈[u],v.oneCell'=true:=fun v hv=>by
  obtain rfl:=List.mem_singleton.1 hv
  exact (k3.2 0 _ _ rfl rfl).one
 by_cases hroom:n+1≤cap
 ·refine (b1N (φ 0).1 ((φ 0).2+0) n cap i (φ 1).1 ((φ 1).2+0) 1 cap1 us [u] w hi (by omega) hroom (by omega) hvb hul rfl hcell (fun j hj=>?_) (fun j hj=>f1L g1 _) hcell1 h1c h1u 25 25 (pre1++[u]++post1).toArray.size (pre++us++post).toArray.size (by simp [World.shape?,k1]) (by simp [World.shape?,g1]) (by rw [hsz];omega) (f1L k1 _) (f1L k1 _)).mono ?_
  ·rw [g0L g1,Array.getElem?_eq_getElem (by rw [hsz];omega)];rfl
  rintro e w' ⟨rfl,rfl⟩
  obtain ⟨p,post,rfl⟩:∃ p q,post=p :: q:=by
   cases post with
   | nil=>simp at hc0;omega
   | cons p q=>exact ⟨p,q,rfl⟩
  obtain ⟨y,hy⟩:∃ y,us.drop i=y :: us.drop (i+1):=⟨us[i]'(by omega),List.drop_eq_getElem_cons (by omega)⟩
  have hlt:(us.take i).length=i:=by rw [List.length_take];omega
  have hst:us=us.take i++y :: us.drop (i+1):=by rw [←hy,List.take_append_drop]
  have ga:w.drew.heap[(φ 0).1]?=some (.cells ((pre++us.take i++[y])++(us.drop (i+1)++[p])++post).toArray 25 (0,0)):=by
   show w.heap[(φ 0).1]?=_
   rw [g1]
   conv=>lhs;rw [hst]
   simp
  have s1:=c0N (vs:=us.drop i) (B:=us.drop (i+1)++[p]) (A:=pre++us.take i++[y]) (C:=post) (w:=w.drew) (b:=(φ 0).1) (by rw [hy];simp) ga
  have hA1:(pre++us.take i++[y]).length=(φ 0).2+0+(i+1):=by simp [hlt,g2];try omega
  rw [hA1] at s1
  rw [s1]
  have gb:(w.drew.setRow (φ 0).1 (pre++us.take i++[y]++us.drop i++post).toArray).heap[(φ 0).1]?=some (.cells ((pre++us.take i)++[y]++(us.drop i++post)).toArray 25 (0,0)):=by
   rw [setRow_heap _ _ _ _ _ _ ga];simp
  have s2:=c0N (vs:=[u]) (B:=[y]) (A:=pre++us.take i) (C:=us.drop i++post) rfl gb
  have hA2:(pre++us.take i).length=(φ 0).2+0+i:=by simp [hlt,g2]
  rw [hA2,f0u] at s2
  rw [s2]
  have hsz2:((pre++us.take i)++[u]++(us.drop i++post)).toArray.size=((pre++us.take i++[y])++(us.drop (i+1)++[p])++post).toArray.size:=by
   have:=congrArg List.length hy
   simp at this ⊢;omega
  have hk:Keep (fun b=>b=(φ 0).1) w (w.drew.setRow (φ 0).1 ((pre++us.take i)++[u]++(us.drop i++post)).toArray):=by
   have:=(Keep.refl (fun b=>b=(φ 0).1) w).drew.trans (b0k (w:=w.drew) ga hsz2) (fun _ _ h=>h)
   exact this
  have hblk:=setRow_heap w.drew (φ 0).1 _ ((pre++us.take i)++[u]++(us.drop i++post)).toArray _ _ ga
  have hlv:∀ b,b=(φ 0).1→Av X φ [.data 25 xs,.data 25 [fEv l]] b:=fun b e=>by subst e;exact .inr (b0I (r:=0) rfl hl0)
  obtain ⟨m1,m2,m3⟩:=hH.moved (r:=0) rfl hl0 hk (φ 0).1 (φ 0).2 (.data 25 (xs.take i++fEv l :: xs.drop i)) (.inr rfl) (fun hav=>fun _=>⟨pre,us.take i++[u]++us.drop i,post,by rw [a0M];rw [hblk];simp,by rw [a0M];exact g2,by
   have h1:=(((g3.take i).append k3).append (g3.drop i)).keep hk hlv hav
   simpa using h1⟩)
  refine ⟨_,_,_,rfl,⟨rfl,rfl⟩,ext1 φ 2 ((φ 0).1,(φ 0).2),⟨by simp,fun r hr=>a0n hr,hk.mono (fun b _ e=>by subst e;exact b0I (r:=0) rfl hl0),m2⟩,m1,?_⟩
  have hR:=R.sl (P:=Tryz.prog) (w:=w.drew.setRow (φ 0).1 ((pre++us.take i)++[u]++(us.drop i++post)).toArray) (φ:=ext1 φ 2 ((φ 0).1,(φ 0).2)) (A:=Av X (ext1 φ 2 ((φ 0).1,(φ 0).2)) [.dead,.data 25 [fEv l],.data 25 (xs.take i++fEv l :: xs.drop i)]) (N:=3) (r:=2) (off:=0) (n:=n+1) (cap:=cap) (i:=j0) (by omega) (by omega) hroom (by rw [a0M];exact hblk) hj1 (by
   rw [a0M,hj2,hsz2]
   have:=hsz
   simp at this hc0 ⊢
   have h3:=congrArg List.length hy
   simp at h3
   omega)
  rw [a0M] at hR
  exact hR
 ·refine (c1w (φ 0).1 ((φ 0).2+0) n cap i (φ 1).1 ((φ 1).2+0) 1 cap1 us [u] w hi (by omega) hnc (by omega) (by omega) hul rfl hcell hcell1 h1c h1u).mono ?_
  rintro e w' ⟨rfl,rfl⟩
  obtain ⟨G,hG⟩:∃ G,G=grownCap w (n+1) cap 25:=⟨_,rfl⟩
  have hge:n+1≤G:=by rw [hG];exact grownCap_ge w _ _ _
  rw [←hG]
  have hzs:∀ k,(Builtin.zeroCells (Value.slice none 0 0).cells k).size=k:=fun k=>by rw [size_zeroCells];simp [Value.cells]
  obtain ⟨y,Z1,hZ1⟩:∃ y Z,(Builtin.zeroCells (Value.slice none 0 0).cells (n+1-i)).toList=y :: Z:=by
   cases h:(Builtin.zeroCells (Value.slice none 0 0).cells (n+1-i)).toList with
   | nil=>have:=hzs (n+1-i);rw [←Array.length_toList,h] at this;simp at this;omega
   | cons y Z=>exact ⟨y,Z,rfl⟩
  have hZl:Z1.length=n-i:=by have:=hzs (n+1-i);rw [←Array.length_toList,hZ1] at this;simp at this;omega
  obtain ⟨Z2,hZ2⟩:∃ Z,Z=(Builtin.zeroCells (Value.slice none 0 0).cells (G-(n+1))).toList:=⟨_,rfl⟩
  have hZ2l:Z2.length=G-(n+1):=by rw [hZ2,Array.length_toList,hzs]
  have hrow:((us.take i).toArray++Builtin.zeroCells (Value.slice none 0 0).cells (n+1-i)++Builtin.zeroCells (Value.slice none 0 0).cells (G-(n+1)))=(us.take i++[y]++(Z1++Z2)).toArray:=by
   apply Array.ext'
   simp [hZ1,hZ2]
  rw [hrow]
  have hlt:(us.take i).length=i:=by rw [List.length_take];omega
  have ga:(w.alloc (.cells (us.take i++[y]++(Z1++Z2)).toArray 25)).drew.heap[w.heap.size]?=some (.cells (us.take i++[y]++(Z1++Z2)).toArray 25 (0,0)):=heap_alloc_new w _
  have s1:=c0N (vs:=[u]) (B:=[y]) (A:=us.take i) (C:=Z1++Z2) rfl ga
  rw [hlt] at s1
  rw [s1]
  have gb:((w.alloc (.cells (us.take i++[y]++(Z1++Z2)).toArray 25)).drew.setRow w.heap.size (us.take i++[u]++(Z1++Z2)).toArray).drew.heap[w.heap.size]?=some (.cells ((us.take i++[u])++Z1++Z2).toArray 25 (0,0)):=by
   show ((w.alloc (.cells (us.take i++[y]++(Z1++Z2)).toArray 25)).drew.setRow w.heap.size (us.take i++[u]++(Z1++Z2)).toArray).heap[w.heap.size]?=_
   rw [setRow_heap _ _ _ _ _ _ ga];simp
  have s2:=c0N (vs:=us.drop i) (B:=Z1) (A:=us.take i++[u]) (C:=Z2) (by rw [hZl,List.length_drop];omega) gb
  rw [List.length_append,hlt,List.length_singleton] at s2
  rw [s2]
  obtain ⟨W,hW⟩:∃ W,W=((w.alloc (.cells (us.take i++[y]++(Z1++Z2)).toArray 25)).drew.setRow w.heap.size (us.take i++[u]++(Z1++Z2)).toArray).drew:=⟨_,rfl⟩
  rw [←hW] at gb ⊢
  have hk0:Keep (fun _=>False) w W:=by
   rw [hW]
   have h1:=(Keep.alloc (fun _=>False) w (.cells (us.take i++[y]++(Z1++Z2)).toArray 25)).drew
   have h2:=(b0k (w:=(w.alloc (.cells (us.take i++[y]++(Z1++Z2)).toArray 25)).drew) (g:=w.heap.size) (cs:=(us.take i++[u]++(Z1++Z2)).toArray) ga (by simp)).drew
   exact h1.trans h2 (fun b hb e=>by omega)
  have hsz3:(us.take i++[u]++us.drop i++Z2).toArray.size=((us.take i++[u])++Z1++Z2).toArray.size:=by simp;omega
  have hk:Keep (fun _=>False) w (W.setRow w.heap.size (us.take i++[u]++us.drop i++Z2).toArray):=hk0.trans (b0k gb hsz3) (fun b hb e=>by omega)
  have hblk:=setRow_heap W w.heap.size _ (us.take i++[u]++us.drop i++Z2).toArray _ _ gb
  obtain ⟨m1,m2,m3⟩:=hH.moved (r:=0) rfl hl0 (hk.mono (fun _ _ h=>h.elim)) w.heap.size 0 (.data 25 (xs.take i++fEv l :: xs.drop i)) (.inl (Nat.le_refl _)) (fun hav=>fun _=>⟨[],us.take i++[u]++us.drop i,Z2,by rw [a0M];rw [hblk];simp,by rw [a0M];rfl,by
   have h1:=(((g3.take i).append k3).append (g3.drop i)).keep hk (fun _ h=>h.elim) hav
   simpa using h1⟩)
  refine ⟨_,_,_,rfl,⟨rfl,rfl⟩,ext1 φ 2 (w.heap.size,0),⟨by simp,fun r hr=>a0n hr,hk.mono (fun b _ e=>e.elim),m2⟩,m1,?_⟩
  have hR:=R.sl (P:=Tryz.prog) (w:=W.setRow w.heap.size (us.take i++[u]++us.drop i++Z2).toArray) (φ:=ext1 φ 2 (w.heap.size,0)) (A:=Av X (ext1 φ 2 (w.heap.size,0)) [.dead,.data 25 [fEv l],.data 25 (xs.take i++fEv l :: xs.drop i)]) (N:=3) (r:=2) (off:=0) (n:=n+1) (cap:=G) (i:=j0) (by omega) (by omega) hge (by rw [a0M];exact hblk) hj1 (by
   rw [a0M,hj2]
   simp
   omega)
  rw [a0M] at hR
  exact hR
end Go.Proofs.YthjgmldnegaaiaaGreatDoor.Mir
namespace Go.Proofs.YthjgmldnegaaiaaGreatDoor.Mir
open Go Go.RowKit
def b0R:SCode→List Oper
 | .ops l=>l.filterMap fun i=>match i.op with|.raw o=>some o|_=>none
 | .drw l _=>l.filterMap fun i=>match i.op with|.raw o=>some o|_=>none
 | .seq a b=>b0R a++b0R b
 | .cond _ a b=>b0R a++b0R b
 | .block _ a=>b0R a
 | .loop a=>b0R a
 | _=>[]
def b0m (P:Program)(f:FuncId)(k:Nat):SOp:=(((P.funcs[f]?).bind fun fn=>fn.body).bind fun b=>(b0R (a0r P b))[k]?).elim (.mv (.t 0)) .raw
def i0E (P:Program):SCode :=
  (jq ([.a 6 (.mv kN)]) (jq ([jm 10 0,jm 11 1,.a 12 (.sub 1 25 (.t 10) (some (.t 11)) none none)]) (jq ([jm 13 2,je 14 13,jm 7 14]) (.seq (jq ([jm 15
 7,jb 16 .eql 15 0]) (jc 16 (jq ([jm 17 0,jm 6 17]) .ret) .skip)) (jq ([jm 18 0,je 19 18,jm 8 19]) (.seq (jq ([jm 20 1,jm 21 8,jB 22 .eql 20 21])
 (jc 22 (jq ((ap [jm 23 0,jm 24 2,.a 25 (.app 25 1 24 (.t 23) (.t 24))] [jm 6 25])) .ret) .skip)) (.seq (jq ([jm 26 8,jm 27 7,jB 28 .add 26 27,jm
 29 0,.a 30 (b0m P 80 0),jB 31 .gtr 28 30]) (jc 31 (jq ([jm 32 0,jm 33 1,.a 34 (.sub 1 25 (.t 32) none (some (.t 33)) none),jm 35 8,jm 36
 7,jB 37 .add 35 36,jm 38 1,jB 39 .sub 37 38,.a 40 (b0m P 80 1),jm 9 40]) (jq ([jm 41 9,jm 42 1,.a 43 (.sub 1 25 (.t 41) (some (.t 42))
 none none),jm 44 2,.a 45 (b0m P 80 2)]) (.seq (.drw [jm 46 9,jm 47 1,jm 48 7,jB 49 .add 47 48,.a 50 (.sub 1 25 (.t 46) (some (.t 49))
 none none),jm 51 0,jm 52 1,.a 53 (.sub 1 25 (.t 51) (some (.t 52)) none none),.a 54 (b0m P 80 3)] [0,0,0,6,15,0,0,96,255]) (jq ([jm
 55 9,jm 6 55]) .ret)))) .skip)) (jq ([jm 56 0,jm 57 8,jm 58 7,jB 59 .add 57 58,.a 60 (.sub 1 25 (.t 56) none (some (.t 59)) none),jm 0 60]) (.seq
 (jq ((ap [jm 61 2,jm 62 0,jm 63 1,jm 64 7,jB 65 .add 63 64,.a 66 (.sub 1 25 (.t 62) (some (.t 65)) none none),.a 67 (.call (kC 127) [(.t 61),(.t
 66)])] [.a 68 (.unot (.t 67))])) (jc 68 (.seq (.drw [jm 69 0,jm 70 1,jm 71 7,jB 72 .add 70 71,.a 73 (.sub 1 25 (.t 69) (some (.t 72)) none none),
 jm 74 0,jm 75 1,.a 76 (.sub 1 25 (.t 74) (some (.t 75)) none none),.a 77 (b0m P 80 4)] [0,0,0,6,15,0,0,96,255]) (jq ([jm 78 0,jm 79
 1,.a 80 (.sub 1 25 (.t 78) (some (.t 79)) none none),jm 81 2,.a 82 (b0m P 80 5)]) (jq ([jm 83 0,jm 6 83]) .ret))) .skip)) (jq ([jm 84 0,jm
 85 8,.a 86 (.sub 1 25 (.t 84) (some (.t 85)) none none),jm 87 2,.a 88 (b0m P 80 6)]) (jq ([jm 89 0,jm 90 1,.a 91 (.sub 1 25 (.t 89) (some
 (.t 90)) none none),jm 92 7,.a 93 (.call (kC 128) [(.t 91),(.t 92)])]) (jq ([jm 94 0,jm 6 94]) .ret))))))))))))
theorem q0p:Fn Tryz.prog 80 95 [.t 6] (i0E Tryz.prog):=.of Tryz.func80 (by kernel_rfl)
end Go.Proofs.YthjgmldnegaaiaaGreatDoor.Mir
