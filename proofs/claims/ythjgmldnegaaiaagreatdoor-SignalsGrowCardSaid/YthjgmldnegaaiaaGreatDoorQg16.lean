/- Lemmas for the proof. No condition. -/
import Derived.Test.YthjgmldnegaaiaaGreatDoorQg15
import Derived.Shelf.Spec.SlicesInsertGrow
set_option linter.unusedVariables false
set_option linter.unusedSimpArgs false
namespace Go.Proofs.YthjgmldnegaaiaaGreatDoor.Mir
open Go Go.RowKit
set_option maxHeartbeats 4000000
set_option maxRecDepth 100000 in
theorem y0u (l:Br)(g:FuncId)(caps:List D)(H:List Row)(p:List Ev→Bool)(hl:l.length≤1000000)
  (hf:∀ x∈l,Con Tryz.prog g (.f (fEv x) :: caps) H fun r H'=>r=D.bool (p x)∧H'=H):Con Tryz.prog 76 [.f (fBr l),.fn g caps] H fun r H'=>r=D.int (idxF p 0 l)∧H'=H:=by
 refine Con.walk good k0n (by simp) ?_
 unfold g0o
 simp only [a0J]
 repeat' (with_reducible first|refine Wx.h ?_|refine Wb.h fun K hK=>?_|(refine hK _ ?_;clear hK K)|((fail_if_success refine Wz.h ?_);simp (disch:=omega) only [↓LD,LA,a0A,seval,LBr]))
 refine HS.loopP (fun x:Nat=>[(0,.f (fBr l)),(1,.fn g caps),(7,D.int l.length),(8,D.int x)]) (fun _=>H)
  (fun x=>x≤l.length∧idxF p 0 l=idxF p x (l.drop x)) (fun x=>l.length-x) 0 rfl (by kernel_rfl) ⟨Nat.zero_le _,rfl⟩ ?_
 rintro k ⟨hk,hr⟩
 repeat' (with_reducible first|refine Wx.h ?_|refine Wb.h fun K hK=>?_|(refine hK _ ?_;clear hK K)|refine Wq.h ?_ ?_<;>intro h|((fail_if_success refine Wz.h ?_);first|simp (disch:=omega) only [↓LD,LA,a0A,seval,LBr]|(refine And.intro ?_ ?_;omega)|fail))
 rotate_left
 ·refine endA rfl rfl ⟨congrArg D.int ?_,rfl⟩
  rw [hr,List.drop_of_length_le (by omega)];try rfl
 refine a0s (hf _ (a0M (by omega))) ?_
 rintro _ H' ⟨rfl,hH⟩
 rw [hH];clear hH H'
 repeat' (with_reducible first|refine Wx.h ?_|refine Wb.h fun K hK=>?_|(refine hK _ ?_;clear hK K)|refine Wq.h ?_ ?_<;>intro h|((fail_if_success refine Wz.h ?_);simp (disch:=omega) only [↓LD,LA,a0A,seval,D.bool]))
 ·refine endA rfl rfl ⟨congrArg D.int ?_,rfl⟩
  rw [hr,a0I (by omega),idxF,if_pos h]
 ·refine NextP.mk (k+1) rfl (by kernel_rfl) ?_ ?_
  ·refine ⟨by omega,?_⟩
   rw [hr,a0I (by omega),idxF,if_neg (by simp [h])]
  ·omega
theorem j0a (l:Br)(g:FuncId)(caps:List D)(H:List Row)(p:List Ev→Bool)(hl:l.length≤1000000)
  (hf:∀ x∈l,Con Tryz.prog g (.f (fEv x) :: caps) H fun r H'=>r=D.bool (p x)∧H'=H):Con Tryz.prog 41 [.f (fBr l),.fn g caps] H fun r H'=>r=D.bool (l.any p)∧H'=H:=by
 refine Con.walk good r0S (by simp) ?_
 unfold j0T
 simp only [a0J]
 repeat' (with_reducible first|refine Wx.h ?_|refine Wb.h fun K hK=>?_|(refine hK _ ?_;clear hK K)|((fail_if_success refine Wz.h ?_);simp (disch:=omega) only [↓LD,LA,a0A,seval]))
 refine a0s (y0u l g caps H p hl hf) ?_
 rintro _ H' ⟨rfl,hH⟩
 rw [hH];clear hH H'
 repeat' (with_reducible first|refine Wx.h ?_|refine Wb.h fun K hK=>?_|(refine hK _ ?_;clear hK K)|refine Wq.h ?_ ?_<;>intro h|((fail_if_success refine Wz.h ?_);simp (disch:=omega) only [↓LD,LA,a0A,seval,D.int]))
 all_goals
  refine endA rfl rfl ⟨congrArg D.bool ?_,rfl⟩
  rw [←g0C p 0 l];simp;omega
def bxB (l:List Ev):Row:=.box 25 [.f (fEv l)]
def bxI (k:Int):Row:=.box 3 [D.int k]
set_option maxRecDepth 100000 in
theorem a1c (x l:List Ev)(k:Int)(hx:FitL x)(hl:FitL l):Con Tryz.prog 42 [.f (fEv x),.pt 0 0,.pt 1 0] [bxB l,bxI k] fun r H'=>r=D.bool (h0N l x k)∧H'=[bxB l,bxI k]:=by
 have hc:=y0E l x k hl hx
 refine Con.walk good y0T (by simp) ?_
 unfold p0k bxB bxI
 simp only [a0J]
 repeat' (with_reducible first|refine Wx.h ?_|refine Wb.h fun K hK=>?_|(refine hK _ ?_;clear hK K)|((fail_if_success refine Wz.h ?_);simp (disch:=omega) only [↓LD,LA,a0A,seval]))
 refine a0C hc rfl rfl rfl ?_
 repeat' (with_reducible first|refine Wx.h ?_|(refine hK _ ?_;clear hK K)|((fail_if_success refine Wz.h ?_);simp (disch:=omega) only [↓LD,LA,a0A,seval]))
 exact end1 rfl rfl (by kernel_rfl) .f ⟨rfl,rfl⟩
set_option maxRecDepth 100000 in
theorem z0P (x l:List Ev)(hx:FitL x)(hl:FitL l):Con Tryz.prog 44 [.f (fEv x),.pt 0 0] [bxB l] fun r H'=>r=D.bool (decide ((a0Q l x:Int)=l.length))∧H'=[bxB l]:=by
 haveI:Kn (FitL x):=⟨hx⟩
 haveI:Kn (FitL l):=⟨hl⟩
 refine Con.walk good z0F (by simp) ?_
 unfold r0h bxB
 simp only [a0J]
 by_cases h:(a0Q l x:Int)=l.length
 ·rw [decide_eq_true h]
  repeat' (with_reducible first|refine Wx.h ?_|refine We.h fun K hK=>?_|(refine hK _ _ _ _ ?_;clear hK K;try clear hM M)|refine Wb.h fun K hK=>?_|(refine hK _ ?_;clear hK K)|(refine wT ?_ ?_;assumption)|(refine Wy.h ?_ ?_;kernel_rfl)|((fail_if_success refine Wz.h ?_);simp (disch:=omega) only [↓LD,LA,a0A,seval,LEv]))
  all_goals exact end1 rfl rfl (by kernel_rfl) .f ⟨rfl,rfl⟩
 ·rw [decide_eq_false h]
  repeat' (with_reducible first|refine Wx.h ?_|refine We.h fun K hK=>?_|(refine hK _ _ _ _ ?_;clear hK K;try clear hM M)|refine Wb.h fun K hK=>?_|(refine hK _ ?_;clear hK K)|(refine wF ?_ ?_;assumption)|(refine Wy.h ?_ ?_;kernel_rfl)|((fail_if_success refine Wz.h ?_);simp (disch:=omega) only [↓LD,LA,a0A,seval,LEv]))
  all_goals exact end1 rfl rfl (by kernel_rfl) .f ⟨rfl,rfl⟩
set_option maxRecDepth 100000 in
theorem x0u (x l:List Ev)(hx:IdL x)(hl:IdL l)(hxk:(ofL x).length≤1000000)(hlk:(ofL l).length≤1000000):Con Tryz.prog 79 [.f (fEv x),.pt 0 0] [bxB l] fun r H'=>r=D.bool (decide (0<cmpI (ofL l) (ofL x)))∧H'=[bxB l]:=by
 haveI:Kn (IdL x):=⟨hx⟩
 haveI:Kn (IdL l):=⟨hl⟩
 haveI:Kn ((ofL x).length≤1000000):=⟨hxk⟩
 haveI:Kn ((ofL l).length≤1000000):=⟨hlk⟩
 refine Con.walk good t0i (by simp) ?_
 unfold l0R bxB
 simp only [a0J]
 by_cases h:0<cmpI (ofL l) (ofL x)
 ·rw [decide_eq_true h]
  repeat' (with_reducible first|refine Wx.h ?_|refine Wb.h fun K hK=>?_|(refine hK _ ?_;clear hK K)|(refine wT ?_ ?_;assumption)|((fail_if_success refine Wz.h ?_);simp (disch:=omega) only [↓LD,LA,a0A,seval]))
  all_goals exact end1 rfl rfl (by kernel_rfl) .f ⟨rfl,rfl⟩
 ·rw [decide_eq_false h]
  repeat' (with_reducible first|refine Wx.h ?_|refine Wb.h fun K hK=>?_|(refine hK _ ?_;clear hK K)|(refine wF ?_ ?_;assumption)|((fail_if_success refine Wz.h ?_);simp (disch:=omega) only [↓LD,LA,a0A,seval]))
  all_goals exact end1 rfl rfl (by kernel_rfl) .f ⟨rfl,rfl⟩
set_option maxRecDepth 100000 in
theorem k0c (t:Br)(ht:TrK t):Con Tryz.prog 46 [.ag [.f (fBr t)]] [] fun r H'=>r = .ag [.f (fBr t)]∧H'=[]:=by
 have htl:=ht.len
 refine Con.walk good s0f (by simp) ?_
 unfold j0M
 simp only [a0J]
 repeat' (with_reducible first|refine Wx.h ?_|refine Wb.h fun K hK=>?_|(refine hK _ ?_;clear hK K)|((fail_if_success refine Wz.h ?_);simp (disch:=omega) only [↓LD,LA,a0A,seval,LBr]))
 refine HS.view (View.void 25) ?_
 refine HS.view (View.bcell 2 0 (.sl 3 0 0) rfl rfl (.no (by show 3<4;omega))) ?_
 refine HS.loopG [2,3,7,8,9] (fun i:Nat=>⟨frm 22 [(2,.pt 0 0),(3,.pt 1 0),(7,.f (fBr t)),(8,D.int t.length),(9,D.int i)],[.box 30 [jN],.box 30 [.sl 2 0 i],.data 25 ((t.take i).map fEv)],[]⟩) (fun i=>i≤t.length) (fun i=>t.length-i) 0 (by kernel_rfl) (Nat.zero_le _) ?_
 rintro i hi
 by_cases hil:i<t.length
 ·obtain ⟨ok,ne⟩:=ht.gt hil
  haveI:Kn (FitL (gt t i)):=⟨ok.fitL⟩
  have hlen:((t.take i).map fEv).length=i:=by rw [List.length_map,List.length_take];omega
  have ha:(t.take i).map fEv++[fEv (gt t i)]=(t.take (i+1)).map fEv:=by rw [List.take_succ_eq_append_getElem hil,←a0v hil,w0J]
  repeat' (with_reducible first|refine Wx.h ?_|refine We.h fun K hK=>?_|(refine hK _ _ _ _ ?_;clear hK K;try clear hM M)|refine Wb.h fun K hK=>?_|(refine hK _ ?_;clear hK K)|(refine Wy.h ?_ ?_;kernel_rfl)|refine Wq.h ?_ ?_<;>intro h<;>try (exfalso;omega)|((fail_if_success refine Wz.h ?_);first|simp (disch:=omega) only [↓LD,LA,a0A,seval,LBr,hlen,ha]|(refine And.intro ?_ ?_;omega)|fail))
  all_goals exact Next.mk (i+1) (by kernel_rfl) (by omega) (by omega)
 ·rw [List.take_of_length_le (by omega)]
  obtain rfl:i=t.length:=by omega
  repeat' (with_reducible first|refine Wx.h ?_|refine Wb.h fun K hK=>?_|(refine hK _ ?_;clear hK K)|refine Wq.h ?_ ?_<;>intro h<;>try (exfalso;omega)|((fail_if_success refine Wz.h ?_);simp (disch:=omega) only [↓LD,LA,a0A,seval,LBr]))
  exact RetS.still (ds:=[.ag [.sl 2 0 t.length]]) (by kernel_rfl) (by kernel_rfl) (.ags (.cons (d1i rfl rfl rfl) .nil)) ⟨rfl,rfl⟩
set_option maxRecDepth 100000 in
theorem o0B (l:List Ev)(hf:FitL l):Con Tryz.prog 51 [.f (fEv l)] [] fun r H'=>r = .sl 0 0 l.length∧H'=[rEv l]:=by
 obtain ⟨hl,hln⟩:=hf
 refine Con.walk good f0q (by simp) ?_
 unfold d0y
 simp only [a0J]
 refine HS.seq ?_
 repeat' (with_reducible first|refine Wa.h ?_|refine Wb.h fun K hK=>?_|(refine hK _ ?_;clear hK K)|((fail_if_success refine Wz.h ?_);simp (disch:=omega) only [↓LD,LA,a0A,seval]))
 refine HS.seq ?_
 repeat' (with_reducible first|refine Wa.h ?_|refine Wb.h fun K hK=>?_|(refine hK _ ?_;clear hK K)|((fail_if_success refine Wz.h ?_);simp (disch:=omega) only [↓LD,LA,a0A,seval]))
 refine HS.view (View.void 73) ?_
 refine HS.view (View.slot 3 (.sl 0 0 0) (.no (by decide))) ?_
 repeat' (with_reducible first|refine Wx.h ?_|refine Wb.h fun K hK=>?_|(refine hK _ ?_;clear hK K)|((fail_if_success refine Wz.h ?_);simp (disch:=omega) only [↓LD,LA,a0A,seval,LEv]))
 refine HS.loopG [3,6,7,8] (fun i:Nat=>⟨frm 19 [(3,.sl 0 0 i),(6,.f (fEv l)),(7,D.int l.length),(8,D.int i)],[.data 73 ((l.take i).flatMap Ev.cs)],[]⟩) (fun i=>i≤l.length) (fun i=>l.length-i) 0 (by kernel_rfl) (Nat.zero_le _) ?_
 rintro i hi
 by_cases hil:i<l.length
 ·have hv:=hln _ (a0M hil)
  have hfn:=t0Z hv
  obtain ⟨f1,f2,f3,f4⟩:=hv
  have hlen:((l.take i).flatMap Ev.cs).length=i*9:=by rw [a0K,List.length_take,Nat.min_eq_left hi]
  have ha:(l.take i).flatMap Ev.cs++Ev.cs (gt l i)=(l.take (i+1)).flatMap Ev.cs:=by
   rw [List.take_succ_eq_append_getElem hil,List.flatMap_append,←a0v hil];simp
  generalize hg:gt l i=e at *
  rw [Ev.cs] at ha
  repeat' (with_reducible first|refine Wx.h ?_|refine Wb.h fun K hK=>?_|(refine hK _ ?_;clear hK K)|refine Wq.h ?_ ?_<;>intro h<;>try (exfalso;omega)|((fail_if_success refine Wz.h ?_);first|simp (disch:=omega) only [↓LD,LA,a0A,seval,LEv,b0t,a0K,Ev.cs,hg,hlen,evD,ha,List.map_cons,List.map_nil,-a0A]|(refine And.intro ?_ ?_;omega)|fail))
  refine ⟨⟨hfn,by omega,by omega⟩,?_⟩
  repeat' (with_reducible first|refine Wx.h ?_|refine Wb.h fun K hK=>?_|(refine hK _ ?_;clear hK K)|((fail_if_success refine Wz.h ?_);first|simp (disch:=omega) only [↓LD,LA,a0A,seval,LEv,b0t,a0K,Ev.cs,hg,hlen,evD,ha,List.map_cons,List.map_nil,-a0A]|(refine And.intro ?_ ?_;omega)|fail))
  exact Next.mk (i+1) (by kernel_rfl) (by omega) (by omega)
 ·rw [List.take_of_length_le (by omega)]
  obtain rfl:i=l.length:=by omega
  repeat' (with_reducible first|refine Wx.h ?_|refine Wb.h fun K hK=>?_|(refine hK _ ?_;clear hK K)|refine Wq.h ?_ ?_<;>intro h<;>try (exfalso;omega)|((fail_if_success refine Wz.h ?_);simp (disch:=omega) only [↓LD,LA,a0A,seval]))
  exact endG rfl rfl (ef:=⟨.sl 0 0 l.length,[],[rEv l]⟩) (by kernel_rfl) ⟨rfl,rfl⟩
theorem f1B {x y:Im}:eqL [0,0] [.f (.v (.int .i64 x.id)),.f (.v (.int .i64 x.ver))] [.f (.v (.int .i64 y.id)),.f (.v (.int .i64 y.ver))]=some (eqB x y):=by
 simp only [eqL,eqV,if_true,Bool.and_true]
 obtain ⟨a1,a2⟩:=x
 obtain ⟨b1,b2⟩:=y
 congr 1
 by_cases e:(⟨a1,a2⟩:Im)=⟨b1,b2⟩
 ·rw [f0S e];cases e;simp
 ·rw [f0R e]
  by_cases e1:a1=b1
  ·have e2:¬ a2=b2:=fun e2=>e (by rw [e1,e2])
   simp [e2]
  ·simp [e1]
set_option maxRecDepth 100000 in
theorem z0s (l m:List Im)(hl:l.length≤1000000)(hm:m.length≤1000000):Con Tryz.prog 55 [.f (fIm l),.f (fIm m)] [] fun r H'=>r=D.bool (eqB l m)∧H'=[]:=by
 refine Con.walk good y0U (by simp) ?_
 unfold q0C
 simp only [a0J]
 by_cases hlm:(l.length:Int)=m.length
 rotate_left
 ·repeat' (with_reducible first|refine Wx.h ?_|refine Wb.h fun K hK=>?_|(refine hK _ ?_;clear hK K)|(refine wF ?_ ?_;assumption)|((fail_if_success refine Wz.h ?_);simp (disch:=omega) only [↓LD,LA,a0A,seval,LIm]))
  rw [o0J hlm]
  exact end1 rfl rfl (by kernel_rfl) .f ⟨rfl,rfl⟩
 repeat' (with_reducible first|refine Wx.h ?_|refine Wb.h fun K hK=>?_|(refine hK _ ?_;clear hK K)|(refine wT ?_ ?_;assumption)|((fail_if_success refine Wz.h ?_);simp (disch:=omega) only [↓LD,LA,a0A,seval,LIm]))
 refine HS.loopG [0,1,12,13] (fun i:Nat=>⟨frm 26 [(0,.f (fIm l)),(1,.f (fIm m)),(12,D.int l.length),(13,D.int i)],[],[]⟩) (fun i=>i≤l.length∧l.take i=m.take i) (fun i=>l.length-i) 0 (by kernel_rfl) ⟨Nat.zero_le _,rfl⟩ ?_
 rintro i ⟨hi,ht⟩
 by_cases hil:i<l.length
 ·have him:i<m.length:=by omega
  by_cases e:gt l i=gt m i
  ·have hb:=f0S e
   repeat' (with_reducible first|refine Wx.h ?_|refine We.h fun K hK=>?_|(refine hK _ _ _ _ ?_;clear hK K;try clear hM M)|refine Wb.h fun K hK=>?_|(refine hK _ ?_;clear hK K)|(refine Wy.h ?_ ?_;kernel_rfl)|refine Wq.h ?_ ?_<;>intro h<;>try (exfalso;omega)|((fail_if_success refine Wz.h ?_);first|simp (disch:=omega) only [↓LD,LA,a0A,seval,LIm,h0y,d0D,Im.cs,f1B,hb,Bool.not_true,List.map_cons,List.map_nil,-a0A]|(refine And.intro ?_ ?_;omega)|fail))
   all_goals exact Next.mk (i+1) (by kernel_rfl) ⟨by omega,f0h hlm hil ht e⟩ (by omega)
  ·have hb:=f0R e
   repeat' (with_reducible first|refine Wx.h ?_|refine We.h fun K hK=>?_|(refine hK _ _ _ _ ?_;clear hK K;try clear hM M)|refine Wb.h fun K hK=>?_|(refine hK _ ?_;clear hK K)|(refine Wy.h ?_ ?_;kernel_rfl)|refine Wq.h ?_ ?_<;>intro h<;>try (exfalso;omega)|((fail_if_success refine Wz.h ?_);first|simp (disch:=omega) only [↓LD,LA,a0A,seval,LIm,h0y,d0D,Im.cs,f1B,hb,Bool.not_false,List.map_cons,List.map_nil,-a0A]|(refine And.intro ?_ ?_;omega)|fail))
   all_goals
    rw [u0a e]
    exact end1 rfl rfl (by kernel_rfl) .f ⟨rfl,rfl⟩
 ·repeat' (with_reducible first|refine Wx.h ?_|refine Wb.h fun K hK=>?_|(refine hK _ ?_;clear hK K)|refine Wq.h ?_ ?_<;>intro h<;>try (exfalso;omega)|((fail_if_success refine Wz.h ?_);simp (disch:=omega) only [↓LD,LA,a0A,seval,LIm]))
  rw [o0c hlm ht (by omega)]
  exact end1 rfl rfl (by kernel_rfl) .f ⟨rfl,rfl⟩
instance {a b:List Im}{H:List Row}{K:D→List Row→Prop}[ha:Kn (a.length≤1000000)][hb:Kn (b.length≤1000000)]:Wa (a0T Tryz.prog (.fn 55 []) [.f (fIm a),.f (fIm b)] H K) (K (.f (.v (.bool (eqB a b)))) H):=⟨fun h=>a0C (z0s a b ha.h hb.h) rfl rfl rfl h⟩
set_option maxRecDepth 100000 in
theorem z0h (t:Br)(pre:List Im)(ht:TrK t)(hp:pre.length≤1000000)(h0:¬ pre.length=0):Con Tryz.prog 21 [.ag [.f (fBr t)],.f (fIm pre)] [] fun r H'=>match d0u t pre with
  | none=>r = .tp [jN,D.bool false]∧H'=[]
  | some hd=>r = .tp [.sl 0 0 hd.length,D.bool true]∧H'=[rEv hd]:=by
 have htl:=ht.len
 have hfp:d0u t pre=(t.find? (f0E pre)).map fun b=>b.take (a0b pre).id.toNat:=by unfold d0u;rw [if_neg h0]
 rw [hfp]
 haveI:Kn (pre.length≤1000000):=⟨hp⟩
 refine Con.walk good m0Q (by simp) ?_
 unfold i0x
 simp only [a0J]
 repeat' (with_reducible first|refine Wx.h ?_|refine Wb.h fun K hK=>?_|(refine hK _ ?_;clear hK K)|refine Wq.h ?_ ?_<;>intro h<;>try (exfalso;omega)|((fail_if_success refine Wz.h ?_);simp (disch:=omega) only [↓LD,LA,a0A,seval,LIm,LBr]))
 refine HS.loopG [1,6,16,17,18] (fun i:Nat=>⟨frm 43 [(1,.f (fIm pre)),(6,D.int (a0b pre).id),(16,.f (fBr t)),(17,D.int t.length),(18,D.int i)],[],[]⟩) (fun i=>i≤t.length∧t.find? (f0E pre)=(t.drop i).find? (f0E pre)) (fun i=>t.length-i) 0 (by kernel_rfl) ⟨Nat.zero_le _,rfl⟩ ?_
 rintro i ⟨hi,hF⟩
 by_cases hil:i<t.length
 rotate_left
 ·rw [List.drop_of_length_le (by omega)] at hF
  rw [hF]
  repeat' (with_reducible first|refine Wx.h ?_|refine Wb.h fun K hK=>?_|(refine hK _ ?_;clear hK K)|refine Wq.h ?_ ?_<;>intro h<;>try (exfalso;omega)|((fail_if_success refine Wz.h ?_);simp (disch:=omega) only [↓LD,LA,a0A,seval,LBr]))
  exact RetS.still (ds:=[jN,D.bool false]) (by kernel_rfl) (by kernel_rfl) (.tps (.cons .f (.cons .f .nil))) ⟨rfl,rfl⟩
 obtain ⟨ok,ne⟩:=ht.gt hil
 rw [a0I hil,List.find?_cons] at hF
 have hll:=ok.len
 generalize hb:gt t i=b at *
 have hno:f0E pre b=false→t.find? (f0E pre)=(t.drop (i+1)).find? (f0E pre):=fun h=>by rw [hF,h]
 have hyes:f0E pre b=true→t.find? (f0E pre)=some b:=fun h=>by rw [hF,h]
 clear hF
 by_cases h1:1≤(a0b pre).id∧(a0b pre).id≤b.length
 rotate_left
 ·have hn:=hno (by
   unfold f0E
   by_cases h2:1≤(a0b pre).id
   ·rw [decide_eq_false (p:=(a0b pre).id≤b.length) (fun h=>h1 ⟨h2,h⟩)];simp
   ·rw [decide_eq_false h2];rfl)
  repeat' (with_reducible first|refine Wx.h ?_|refine Wb.h fun K hK=>?_|(refine hK _ ?_;clear hK K)|refine Wq.h ?_ ?_<;>intro h<;>try (exfalso;omega)|((fail_if_success refine Wz.h ?_);first|simp (disch:=omega) only [↓LD,LA,a0A,seval,LIm,LBr,LEv,hb]|(refine And.intro ?_ ?_;omega)|fail))
  all_goals exact Next.mk (i+1) (by kernel_rfl) ⟨by omega,hn⟩ (by omega)
 obtain ⟨c,hc⟩:∃ c:Nat,(a0b pre).id=c:=⟨(a0b pre).id.toNat,by omega⟩
 simp only [hc] at h1 ⊢
 have hs:∀ H:List Row,subS H 9 73 (.f (fEv b)) 0 c=some (.f (fEv (b.take c))):=fun H=>g0D (by omega)
 have hok:=ok.take c
 haveI:Kn (IdL (b.take c)):=⟨hok.idL⟩
 haveI:Kn ((ofL (b.take c)).length≤1000000):=⟨hok.ofK⟩
 have hfe:f0E pre b=eqB (ofL (b.take c)) pre:=by
  unfold f0E
  rw [hc,decide_eq_true h1.1,decide_eq_true h1.2,Int.toNat_natCast];rfl
 rw [hfe] at hno hyes
 cases he:eqB (ofL (b.take c)) pre with
 | true =>
  rw [hyes he]
  repeat' (with_reducible first|refine Wx.h ?_|refine Wb.h fun K hK=>?_|(refine hK _ ?_;clear hK K)|refine Wq.h ?_ ?_<;>intro h<;>try (exfalso;omega)|((fail_if_success refine Wz.h ?_);first|simp (disch:=omega) only [↓LD,LA,a0A,seval,LIm,LBr,LEv,hb,hs,he,Int.toNat_natCast]|(refine And.intro ?_ ?_;omega)|fail))
  refine a0D (o0B (b.take c) hok.fitL) [] (by kernel_rfl) rfl rfl ?_
  rintro _ _ ⟨rfl,rfl⟩
  simp (disch:=omega) only [↓LD,LA,a0A,seval,ren,List.getElem?_nil,rEv]
  repeat' (with_reducible first|refine Wx.h ?_|(refine hK _ ?_;clear hK K)|((fail_if_success refine Wz.h ?_);simp (disch:=omega) only [↓LD,LA,a0A,seval]))
  exact i1A rfl rfl rfl rfl (ef:=⟨.tp [.sl 0 0 (b.take c).length,D.bool true],[],[rEv (b.take c)]⟩) (by kernel_rfl) ⟨rfl,rfl⟩
 | false =>
  have hn:=hno he
  repeat' (with_reducible first|refine Wx.h ?_|refine Wb.h fun K hK=>?_|(refine hK _ ?_;clear hK K)|refine Wq.h ?_ ?_<;>intro h<;>try (exfalso;omega)|((fail_if_success refine Wz.h ?_);first|simp (disch:=omega) only [↓LD,LA,a0A,seval,LIm,LBr,LEv,hb,hs,he,Int.toNat_natCast]|(refine And.intro ?_ ?_;omega)|fail))
  all_goals exact Next.mk (i+1) (by kernel_rfl) ⟨by omega,hn⟩ (by omega)
end Go.Proofs.YthjgmldnegaaiaaGreatDoor.Mir
namespace Go.Proofs.YthjgmldnegaaiaaGreatDoor
open Go Go.RowKit Go.Lib Go.Shelf Go.Proofs
theorem r0X:(Tryz.prog.info? 25).map (·.size)=some 1:=by kernel_rfl
theorem i1c:∀ w,(Go.sizeOf 25).run Tryz.prog w = .ok 1 w:=fun w=>by
 obtain ⟨i,hi,hs⟩:=Option.map_eq_some_iff.1 r0X
 simp [Go.sizeOf,typeInfo,hi,hs]
set_option maxHeartbeats 4000000 in
set_option maxRecDepth 100000 in
theorem b1u (b off n c i vb voff m vc:Nat)(cs vs:List Value)(w:World)(hi:i<n)(hm:0<m)(hroom:n+m≤c)(hc63:n+m≤9223372036854775807)(hvb:vb≠b)
  (hcl:cs.length=n) (hvl:vs.length=m)
  (hcs:∀ j v,cs[j]?=some v→w.cell? ⟨b,off+j,none⟩=some v) (hsp:∀ j,j<n+m→(w.cell? ⟨b,off+j,none⟩).isSome=true) (hfz:∀ j,j<n+m→w.frozen? ⟨b,off+j,none⟩=false)
  (hvs:∀ j v,vs[j]?=some v→w.cell? ⟨vb,voff+j,none⟩=some v) (h1c:∀ v∈cs,v.oneCell'=true) (h1v:∀ v∈vs,v.oneCell'=true)
  (tA tB:TypeId) (kA kB:Nat) (hsa:w.shape? vb=some (tA,kA)) (hsb:w.shape? b=some (tB,kB)) (hkB:kB≠0) (hfa:w.frozen? ⟨vb,voff,none⟩=false) (hfe:w.frozen? ⟨vb,kA,none⟩=false) :
  Calls Tryz.prog 80 #[.slice (some ⟨b,off,none⟩) n c,.int .i64 i,.slice (some ⟨vb,voff,none⟩) m vc] w fun e w' =>
   e = .returned (.slice (some ⟨b,off,none⟩) (n+m) c)∧w'=(w.drew.setCells b (off+(i+m)) (cs.drop i)).setCells b (off+i) vs:=by
 have mixed:Tryz.prog.follows .mixedOrders=true:=by kernel_rfl
 have t24:Tryz.prog.underlying 28=some (.slice 25):=Tryz.underlying28
 have u24:=run_underlying t24
 have hz1:¬ ((m:Int)=0):=by omega
 have hz2:¬ ((i:Int)=(n:Int)):=by omega
 have hov:∀ lb cb,(callFunc 127 #[.slice (some ⟨vb,voff,none⟩) m vc,.slice (some ⟨b,off+(i+m),none⟩) lb cb]).run Tryz.prog w = .ok (.value (.bool false)) w:=fun lb cb=>by
  rw [run_callFunc_extern Tryz.func127 (by kernel_rfl) (by kernel_rfl) (by kernel_rfl) (e:=Extern.SlicesOverlaps.overlaps #[28,28] #[4]) (by kernel_rfl),
   Lib.run_overlaps_apart w 28 4 25 t24 1 i1c ⟨vb,voff,none⟩ ⟨b,off+(i+m),none⟩ m vc lb cb hvb tA tB kA kB hsa hsb hkB hfa hfe]
  rfl
 have hdl:(cs.drop i).length=n-i:=by rw [List.length_drop,hcl]
 have hw1:IntKind.i64.wrap ((i:Int)+(m:Int))=(i:Int)+(m:Int):=by rw [IntKind.wrap_i64];omega
 have hb1:(0:Int)≤(i:Int)+(m:Int):=by omega
 have hin:i≤n:=by omega
 have htn:((i:Int)+(m:Int)).toNat=i+m:=by omega
 have hb2:¬ (c=i+m):=by omega
 have hb3:(i:Int)≤(n:Int)+(m:Int):=by omega
 have hb4:¬ (c=i):=by omega
 have hcp1:∀ ty dc sc,(Builtin.copy_ #[28,28] ty #[.slice (some ⟨b,off+(i+m),none⟩) (n+m-(i+m)) dc,.slice (some ⟨b,off+i,none⟩) (n+m-i) sc]).run Tryz.prog w.drew = .ok (goInt (cs.drop i).length) (w.drew.setCells b (off+(i+m)) (cs.drop i)):=fun ty dc sc =>
  run_copy_cells w.drew _ _ ty 25 b (off+(i+m)) (n+m-(i+m)) dc ⟨b,off+i,none⟩ (n+m-i) sc (cs.drop i) t24 r0X (by rw [hdl];simp only [Nat.min_def];split<;>omega)
   (fun j v hj=>by rw [Addr.add_lit,Nat.add_assoc];exact hcs (i+j) v (by rwa [List.getElem?_drop] at hj))
   (fun j hj=>by rw [Nat.add_assoc];exact hsp _ (by omega)) (fun j hj=>by rw [Nat.add_assoc];exact hfz _ (by omega)) (fun v hv=>h1c v (List.mem_of_mem_drop hv))
 obtain ⟨W1,hW1⟩:∃ W1,W1=w.drew.setCells b (off+(i+m)) (cs.drop i):=⟨_,rfl⟩
 have hsp1:∀ k,k<n+m→(W1.cell? ⟨b,off+k,none⟩).isSome=true:=fun k hk=>by
  rw [hW1]
  exact isSome_setCells b _ _ _ (fun j hj=>by rw [Nat.add_assoc];exact hsp _ (by omega)) _ (hsp k hk)
 have hcp2:∀ (W:World),(∀ x,W.cell? x=W1.cell? x)→(∀ x,W.frozen? x=W1.frozen? x)→∀ ty dc,(Builtin.copy_ #[28,28] ty #[.slice (some ⟨b,off+i,none⟩) (n+m-i) dc,.slice (some ⟨vb,voff,none⟩) m vc]).run Tryz.prog W = .ok (goInt vs.length) (W.setCells b (off+i) vs):=fun W hWc hWf ty dc =>
  run_copy_cells W _ _ ty 25 b (off+i) (n+m-i) dc ⟨vb,voff,none⟩ m vc vs t24 r0X (by rw [hvl];simp only [Nat.min_def];split<;>omega)
   (fun j v hj=>by
    rw [Addr.add_lit,hWc,hW1,World.cell?_setCells_out b _ _ _ _ (fun h _=>absurd h hvb)]
    exact hvs j v hj)
   (fun j hj=>by rw [hWc,Nat.add_assoc];exact hsp1 _ (by omega)) (fun j hj=>by rw [hWf,hW1,World.frozen?_setCells,Nat.add_assoc];exact hfz _ (by omega)) h1v
 rw [←hW1] at hcp1
 go_enter Tryz.func80,Tryz.ntmps80
 go_wp2_with (simp only [hov])
 go_region_law_o (refine step_copy_runI rfl _ _ 28 28 rfl _ _ (by simp [Act.eval,Act.put]) (by simp [Act.eval,Act.put]) (hcp1 _ _ _) ?_)
 go_wp2_with (at_builtin;refine wpList_copy_runI _ rfl _ _ 28 28 rfl _ _ rfl rfl (hcp2 _ (fun _=>rfl) (fun _=>rfl) _ _) ?_)
 go_ret
 first|exact ⟨rfl,rfl⟩|exact ⟨rfl,by rw [hW1]⟩
set_option maxHeartbeats 4000000 in
set_option maxRecDepth 100000 in
theorem e1H (b off n c i vb voff m vc:Nat)(cs vs:List Value)(w:World)(hi:i<n)(hm:0<m)(hnc:n≤c)(hroom:c<n+m)(hbig:(n+m)*24≤140737488355328)
  (hcl:cs.length=n) (hvl:vs.length=m)
  (hcs:∀ j v,cs[j]?=some v→w.cell? ⟨b,off+j,none⟩=some v)
  (hvs:∀ j v,vs[j]?=some v→w.cell? ⟨vb,voff+j,none⟩=some v) (h1c:∀ v∈cs,v.oneCell'=true) (h1v:∀ v∈vs,v.oneCell'=true) :
  Calls Tryz.prog 80 #[.slice (some ⟨b,off,none⟩) n c,.int .i64 i,.slice (some ⟨vb,voff,none⟩) m vc] w fun e w' =>
   e = .returned (.slice (some ⟨w.heap.size,0,none⟩) (n+m) (grownCap w (n+m) c 25)) ∧
   w'=(((w.alloc (.cells ((cs.take i).toArray++Builtin.zeroCells (Value.slice none 0 0).cells (n+m-i)++Builtin.zeroCells (Value.slice none 0 0).cells (grownCap w (n+m) c 25-(n+m))) 25)).drew.setCells w.heap.size i vs).drew).setCells w.heap.size (i+m) (cs.drop i):=by
 have mixed:Tryz.prog.follows .mixedOrders=true:=by kernel_rfl
 have t24:Tryz.prog.underlying 28=some (.slice 25):=Tryz.underlying28
 have t3:Tryz.prog.underlying 3=some (.int .i64):=Tryz.underlying3
 obtain ⟨i0,hi0,hz0,hzs,hzb⟩:=info_parts (show (Tryz.prog.info? 25).map (fun i=>(i.zero,i.size,i.bytes))=some (some (Value.slice none 0 0),1,24) by kernel_rfl)
 have hz1:¬ ((m:Int)=0):=by omega
 have hz2:¬ ((i:Int)=(n:Int)):=by omega
 have hz3:(c:Int)<(n:Int)+(m:Int):=by omega
 have hsz:=r0X
 have hbw:b<w.heap.size:=block_lt_of_cell (hcs 0 _ (List.getElem?_eq_getElem (by omega)))
 have hvw:vb<w.heap.size:=block_lt_of_cell (hvs 0 _ (List.getElem?_eq_getElem (by omega)))
 have hkk:(n:Int)+(m:Int)-(i:Int)=((n+m-i:Nat):Int):=by omega
 have hik:i+(n+m-i)=n+m:=by omega
 have hold:(Builtin.firstCells i0.size i (.slice (some ⟨b,off,none⟩) i c)).run Tryz.prog w.drew = .ok (cs.take i).toArray w.drew:=by
  rw [hzs]
  exact run_firstCells_some w.drew 1 i ⟨b,off,none⟩ i c (cs.take i) (by rw [List.length_take];omega) (fun j v hj=>by
   rw [Addr.add_lit]
   rw [List.getElem?_take] at hj
   split at hj
   ·exact hcs j v hj
   ·cases hj)
 have hrz:∀ ty,(Builtin.append_ #[28,3] ty #[.slice (some ⟨b,off,none⟩) i c,.int .i64 ((n:Int)+(m:Int)-(i:Int))]).run Tryz.prog w =
   .ok (.slice (some ⟨w.heap.size,0,none⟩) (n+m) (grownCap w (n+m) c 25)) (w.drew.alloc (.cells ((cs.take i).toArray++Builtin.zeroCells (Value.slice none 0 0).cells (n+m-i)++Builtin.zeroCells (Value.slice none 0 0).cells (grownCap w (n+m) c 25-(n+m))) 25)):=fun ty=>by
  have h:=Lib.run_append_grow_zeros w 28 3 ty 25 i0 _ .i64 .i64 t24 t3 hi0 hz0 (some ⟨b,off,none⟩) i c (cs.take i) hold (n+m-i) (by omega) (by omega) (by omega) (by omega) (by rw [hzb];omega) (by rw [hzb,hik];exact growslice_fits hroom hbig)
  rw [hik] at h
  rw [hkk]
  exact h
 obtain ⟨G,hG⟩:∃ G,G=grownCap w (n+m) c 25:=⟨_,rfl⟩
 obtain ⟨ROW,hROW⟩:∃ ROW:Array Value,ROW=(cs.take i).toArray++Builtin.zeroCells (Value.slice none 0 0).cells (n+m-i)++Builtin.zeroCells (Value.slice none 0 0).cells (G-(n+m)):=⟨_,rfl⟩
 rw [←hG] at hrz ⊢
 rw [←hROW] at hrz ⊢
 have hRl:n+m≤ROW.size:=by
  rw [hROW]
  simp [Builtin.zeroCells,Value.cells]
  omega
 obtain ⟨W1,hW1⟩:∃ W1,W1=w.drew.alloc (.cells ROW 25):=⟨_,rfl⟩
 rw [←hW1] at hrz
 have hN:∀ j,j<n+m→(W1.cell? ⟨w.heap.size,j,none⟩).isSome=true:=fun j hj=>by
  rw [hW1,World.cell?_alloc_at (w:=w.drew) ROW _ w.heap.size j rfl,Array.getElem?_eq_getElem (by omega)];rfl
 have hNf:∀ j,W1.frozen? ⟨w.heap.size,j,none⟩=false:=fun j=>by rw [hW1];exact World.frozen?_alloc_at (w:=w.drew) ROW _ w.heap.size j rfl
 have hOb:∀ j v,w.cell? ⟨b,j,none⟩=some v→W1.cell? ⟨b,j,none⟩=some v:=fun j v h=>by rw [hW1,World.cell?_alloc_past (w:=w.drew) _ b j hbw];exact h
 have hOv:∀ j v,w.cell? ⟨vb,j,none⟩=some v→W1.cell? ⟨vb,j,none⟩=some v:=fun j v h=>by rw [hW1,World.cell?_alloc_past (w:=w.drew) _ vb j hvw];exact h
 have hcpA:∀ (W:World),(∀ x,W.cell? x=W1.cell? x)→(∀ x,W.frozen? x=W1.frozen? x)→∀ ty dc,(Builtin.copy_ #[28,28] ty #[.slice (some ⟨w.heap.size,i,none⟩) (n+m-i) dc,.slice (some ⟨vb,voff,none⟩) m vc]).run Tryz.prog W = .ok (goInt vs.length) (W.setCells w.heap.size i vs):=fun W hWc hWf ty dc =>
  run_copy_cells W _ _ ty 25 w.heap.size i (n+m-i) dc ⟨vb,voff,none⟩ m vc vs t24 hsz (by rw [hvl];simp only [Nat.min_def];split<;>omega)
   (fun j v hj=>by rw [Addr.add_lit,hWc];exact hOv _ v (hvs j v hj))
   (fun j hj=>by rw [hWc];exact hN _ (by omega)) (fun j hj=>by rw [hWf];exact hNf _) h1v
 have hGn:n+m≤G:=by rw [hG];exact grownCap_ge w _ _ _
 have hG63:G≤9223372036854775807:=by
  have:=grownCap_le_maxLen w (n+m) c 25 (by unfold maxLen;omega)
  rw [←hG] at this
  unfold maxLen at this
  omega
 have hGi:¬ (G=i):=by omega
 have hGim:¬ (G=i+m):=by omega
 have hci:¬ (c=i):=by omega
 have hbN:b≠w.heap.size:=by omega
 have hdl:(cs.drop i).length=n-i:=by rw [List.length_drop,hcl]
 have hcpB:∀ (W:World),(∀ x,W.cell? x=(W1.setCells w.heap.size i vs).cell? x)→(∀ x,W.frozen? x=(W1.setCells w.heap.size i vs).frozen? x)→∀ ty dc sc,(Builtin.copy_ #[28,28] ty #[.slice (some ⟨w.heap.size,i+m,none⟩) (n+m-(i+m)) dc,.slice (some ⟨b,off+i,none⟩) (n-i) sc]).run Tryz.prog W = .ok (goInt (cs.drop i).length) (W.setCells w.heap.size (i+m) (cs.drop i)):=fun W hWc hWf ty dc sc =>
  run_copy_cells W _ _ ty 25 w.heap.size (i+m) (n+m-(i+m)) dc ⟨b,off+i,none⟩ (n-i) sc (cs.drop i) t24 hsz (by rw [hdl];simp only [Nat.min_def];split<;>omega)
   (fun j v hj=>by
    rw [Addr.add_lit,hWc,World.cell?_setCells_out _ _ _ _ _ (fun h _=>absurd h hbN),Nat.add_assoc]
    exact hOb _ v (hcs (i+j) v (by rwa [List.getElem?_drop] at hj)))
   (fun j hj=>by rw [hWc];exact isSome_setCells _ _ _ _ (fun t ht=>hN _ (by omega)) _ (hN _ (by omega)))
   (fun j hj=>by rw [hWf,World.frozen?_setCells];exact hNf _) (fun v hv=>h1c v (List.mem_of_mem_drop hv))
 subst hW1
 have hE1:∀ x,((w.alloc (.cells ROW 25)).drew).cell? x=(w.drew.alloc (.cells ROW 25)).cell? x:=fun x=>rfl
 have hE2:∀ x,((w.alloc (.cells ROW 25)).drew).frozen? x=(w.drew.alloc (.cells ROW 25)).frozen? x:=fun x=>rfl
 have hF1:∀ x,(((w.alloc (.cells ROW 25)).drew.setCells w.heap.size i vs).drew).cell? x=((w.drew.alloc (.cells ROW 25)).setCells w.heap.size i vs).cell? x:=fun x=>rfl
 have hF2:∀ x,(((w.alloc (.cells ROW 25)).drew.setCells w.heap.size i vs).drew).frozen? x=((w.drew.alloc (.cells ROW 25)).setCells w.heap.size i vs).frozen? x:=fun x=>rfl
 have hw1:IntKind.i64.wrap ((i:Int)+(m:Int))=(i:Int)+(m:Int):=by rw [IntKind.wrap_i64];omega
 have hb1:(0:Int)≤(i:Int)+(m:Int):=by omega
 have hin:i≤n:=by omega
 have htn:((i:Int)+(m:Int)).toNat=i+m:=by omega
 have hb3:(i:Int)≤(n:Int):=by omega
 clear hkk hik hold hROW hG hRl
 go_enter Tryz.func80,Tryz.ntmps80
 go_wp2_with (first
  | (at_builtin;refine Lib.wpList_append_run _ rfl _ _ _ _ rfl _ _ rfl rfl _ _ (hrz _) ?_)
  | (at_builtin;refine wpList_copy_runI _ rfl _ _ 28 28 rfl _ _ rfl rfl (hcpA _ hE1 hE2 _ _) ?_)
  | (at_builtin;refine wpList_copy_runI _ rfl _ _ 28 28 rfl _ _ rfl rfl (hcpB _ (fun _=>rfl) (fun _=>rfl) _ _ _) ?_))
 go_region_law_o (refine step_copy_runI rfl _ _ 28 28 rfl (.slice (some ⟨w.heap.size,i+m,none⟩) (n+m-(i+m)) (G-(i+m))) (.slice (some ⟨b,off+i,none⟩) (n-i) (c-i)) (by simp [Act.eval,Act.put]) (by simp [Act.eval,Act.put]) (hcpB _ hF1 hF2 3 (G-(i+m)) (c-i)) ?_)
 go_wp2
 go_ret
 exact ⟨rfl,rfl⟩
end Go.Proofs.YthjgmldnegaaiaaGreatDoor
namespace Go.Proofs.YthjgmldnegaaiaaGreatDoor.Mir
open Go Go.RowKit Go.Lib Go.Proofs
set_option maxHeartbeats 4000000
theorem c1l {a:Array Obj}{b:Nat}{f g:Obj→Obj}{x:Obj}(h:a[b]?=some x)(e:f x=g x):a.modify b f=a.modify b g:=by
 apply Array.ext (by simp)
 intro i h1 h2
 rw [Array.getElem_modify,Array.getElem_modify]
 split
 ·rename_i hi
  subst hi
  obtain ⟨hb,hx⟩:=Array.getElem?_eq_some_iff.1 h
  rw [hx,e]
 ·rfl
theorem t0Y {w:World}{b:Nat}{A C:List Value}{y v:Value}{T:TypeId}{fr:Nat × Nat}(h:w.heap[b]?=some (.cells (A++y :: C).toArray T fr)):w.setCell ⟨b,A.length,none⟩ v=w.setRow b (A++v :: C).toArray:=by
 unfold World.setCell World.setRow
 congr 1
 refine c1l h ?_
 simp
theorem f0f {w:World}{b:Nat}{x y:Array Value}:(w.setRow b x).setRow b y=w.setRow b y:=by
 unfold World.setRow
 congr 1
 apply Array.ext (by simp)
 intro i h1 h2
 simp only [Array.getElem_modify]
 split
 ·rename_i hi
  subst hi
  cases w.heap[b]'(by simpa using h2)<;>rfl
 ·rfl
theorem u0U {w:World}{b:Nat}{x:Array Value}{T:TypeId}{fr:Nat × Nat}(h:w.heap[b]?=some (.cells x T fr)):w.setRow b x=w:=by
 obtain ⟨hb,hx⟩:=Array.getElem?_eq_some_iff.1 h
 have:(w.setRow b x).heap=w.heap:=by
  unfold World.setRow
  apply Array.ext (by simp)
  intro i h1 h2
  simp only [Array.getElem_modify]
  split
  ·rename_i hi
   subst hi
   rw [hx]
  ·rfl
 have e:w.setRow b x={ w with heap:=(w.setRow b x).heap }:=rfl
 rw [e,this]
theorem c0H {b:Nat}{T:TypeId}{fr:Nat × Nat}:∀ {vs B A C:List Value} {w:World},B.length=vs.length→w.heap[b]?=some (.cells (A++B++C).toArray T fr)→w.setCells b A.length vs=w.setRow b (A++vs++C).toArray
 | [],B,A,C,w,hl,h=>by
  obtain rfl:=List.eq_nil_of_length_eq_zero hl
  exact (u0U h).symm
 | v :: r,[],A,C,w,hl,h=>by simp at hl
 | v :: r,y :: B,A,C,w,hl,h=>by
  have h1:w.heap[b]?=some (.cells (A++y :: (B++C)).toArray T fr):=by rw [h];simp
  rw [World.setCells,t0Y h1]
  have h2:(w.setRow b (A++v :: (B++C)).toArray).heap[b]?=some (.cells ((A++[v])++B++C).toArray T fr):=by
   rw [setRow_heap w b _ _ _ _ h1];simp
  have:=c0H (vs:=r) (B:=B) (A:=A++[v]) (C:=C) (by simpa using hl) h2
  rw [List.length_append,List.length_singleton] at this
  rw [this,f0f]
  simp
theorem inf1:∃ i,Tryz.prog.info? 25=some i∧i.size=1:=Option.map_eq_some_iff.1 r0X
set_option maxRecDepth 100000 in
theorem p0P (t:Br)(i:Nat)(l:List Ev)(hi:i<t.length)(ht:t.length≤1000):Con Tryz.prog 80 [.sl 0 0 t.length,D.int i,.sl 1 0 1] [.data 25 (t.map fEv),.data 25 [fEv l]] fun r H' =>
  r = .sl 2 0 (t.length+1)∧H'=[.dead,.data 25 [fEv l],.data 25 ((t.take i++l :: t.drop i).map fEv)]:=by
 refine ⟨b1s (by kernel_rfl),fun w φ X vs hH ha=>?_⟩
 have hl0:(Row.data 25 (t.map fEv)).live=true:=a0j (fun e=>by rw [List.map_eq_nil_iff] at e;subst e;simp at hi)
 have hl1:(Row.data 25 [fEv l]).live=true:=rfl
 obtain ⟨v0,v1,v2,rfl⟩:∃ v0 v1 v2,vs = #[v0,v1,v2]:=by
  obtain ⟨vs⟩:=vs
  have:=ha.1
  match vs,this with
  | [a,b,c],_=>exact ⟨a,b,c,rfl⟩
 have r0:=ha.2 0 _ _ rfl rfl
 have r1:=ha.2 1 _ _ rfl rfl
 have r2:=ha.2 2 _ _ rfl rfl
 obtain ⟨n,hnt⟩:∃ n,n=t.length:=⟨_,rfl⟩
 obtain ⟨xs,hxs⟩:∃ xs,xs=t.map fEv:=⟨_,rfl⟩
 have hxl:xs.length=n:=by rw [hxs,hnt,List.length_map]
 have hout:(t.take i++l :: t.drop i).map fEv=xs.take i++fEv l :: xs.drop i:=by rw [hxs,List.map_append,List.map_cons,List.map_take,List.map_drop]
 rw [hout]
 rw [←hnt] at r0 hi ht ⊢
 rw [←hxs] at hl0 hH ha ⊢
 clear hout hxs hnt ha
 have hne:xs≠[]:=fun e=>by subst e;simp at hxl;omega
 cases r1 with|f r1=>cases r1 with|v _ =>
 cases r0 with
 | sl0=>omega
 | @sl _ _ _ cap cs0 T0 fr0 i0 hn hr hnc hb0 hi0 hc0 =>
 cases r2 with
 | @sl _ _ _ cap1 cs1 T1 fr1 i1 hn1 hr1 hnc1 hb1 hi1 hc1 =>
 obtain ⟨pre,us,post,g1,g2,g3⟩:=hH.rows 0 _ rfl hne
 obtain ⟨pre1,us1,post1,k1,k2,k3⟩:=hH.rows 1 _ rfl (fun e=>by cases e)
 have hul:us.length=n:=g3.1.trans hxl
 obtain ⟨u,rfl⟩:∃ u,us1=[u]:=by
  have:=k3.1
  match us1,this with
  | [u],_=>exact ⟨u,rfl⟩
 rw [g1] at hb0
 injection hb0 with hb0
 injection hb0 with e1 e2 e3
 subst e1;subst e2;subst e3
 obtain ⟨j0,hj1,hj2⟩:=inf1
 rw [hj1] at hi0
 injection hi0 with hi0
 subst hi0
 rw [hj2,Nat.mul_one,Nat.add_zero] at hc0
 have hsz:(pre++us++post).toArray.size=(φ 0).2+n+post.length:=by simp [hul,g2];omega
 rw [hsz] at hc0
 have hvb:(φ 1).1≠(φ 0).1:=fun e=>by have:=hH.apart 1 0 _ _ rfl rfl hl1 hl0 e;omega
 have hcell:∀ j v,us[j]?=some v→w.cell? ⟨(φ 0).1,(φ 0).2+0+j,none⟩=some v:=fun j v hj=>by
  have:=(List.getElem?_eq_some_iff.1 hj).1
  rw [g0l g1,←g2]
  simp only [List.getElem?_toArray]
  rw [List.append_assoc,List.getElem?_append_right (by omega),List.getElem?_append_left (by omega),show pre.length+0+j-pre.length=j by omega]
  exact hj
 have hcell1:∀ j v,[u][j]?=some v→w.cell? ⟨(φ 1).1,(φ 1).2+0+j,none⟩=some v:=fun j v hj=>by
  have:=(List.getElem?_eq_some_iff.1 hj).1
  rw [g0l k1,←k2]
  simp only [List.getElem?_toArray]
  rw [List.append_assoc,List.getElem?_append_right (by omega),List.getElem?_append_left (by simpa using this),show pre1.length+0+j-pre1.length=j by omega]
  exact hj
 have h1c:∀ v∈us,v.oneCell'=true:=fun v hv=>by
  obtain ⟨j,hj,rfl⟩:=List.getElem_of_mem hv
  exact (g3.2 j _ _ (List.getElem?_eq_getElem (by rw [←g3.1];exact hj)) (List.getElem?_eq_getElem hj)).one
 have h1u:∀ v∈[u],v.oneCell'=true:=fun v hv=>by
  obtain rfl:=List.mem_singleton.1 hv
  exact (k3.2 0 _ _ rfl rfl).one
 by_cases hroom:n+1≤cap
 ·refine (b1u (φ 0).1 ((φ 0).2+0) n cap i (φ 1).1 ((φ 1).2+0) 1 cap1 us [u] w hi (by omega) hroom (by omega) hvb hul rfl hcell (fun j hj=>?_) (fun j hj=>f1r g1 _) hcell1 h1c h1u 25 25 (pre1++[u]++post1).toArray.size (pre++us++post).toArray.size (by simp [World.shape?,k1]) (by simp [World.shape?,g1]) (by rw [hsz];omega) (f1r k1 _) (f1r k1 _)).mono ?_
  ·rw [g0l g1,Array.getElem?_eq_getElem (by rw [hsz];omega)];rfl
  rintro e w' ⟨rfl,rfl⟩
  obtain ⟨p,post,rfl⟩:∃ p q,post=p :: q:=by
   cases post with
   | nil=>simp at hc0;omega
   | cons p q=>exact ⟨p,q,rfl⟩
  obtain ⟨y,hy⟩:∃ y,us.drop i=y :: us.drop (i+1):=⟨us[i]'(by omega),List.drop_eq_getElem_cons (by omega)⟩
  have hlt:(us.take i).length=i:=by rw [List.length_take];omega
  have hst:us=us.take i++y :: us.drop (i+1):=by rw [←hy,List.take_append_drop]
  have ga:w.drew.heap[(φ 0).1]?=some (.cells ((pre++us.take i++[y])++(us.drop (i+1)++[p])++post).toArray 25 (0,0)):=by
   show w.heap[(φ 0).1]?=_
   rw [g1]
   conv=>lhs;rw [hst]
   simp
  have s1:=c0H (vs:=us.drop i) (B:=us.drop (i+1)++[p]) (A:=pre++us.take i++[y]) (C:=post) (w:=w.drew) (b:=(φ 0).1) (by rw [hy];simp) ga
  have hA1:(pre++us.take i++[y]).length=(φ 0).2+0+(i+1):=by simp [hlt,g2];try omega
  rw [hA1] at s1
  rw [s1]
  have gb:(w.drew.setRow (φ 0).1 (pre++us.take i++[y]++us.drop i++post).toArray).heap[(φ 0).1]?=some (.cells ((pre++us.take i)++[y]++(us.drop i++post)).toArray 25 (0,0)):=by
   rw [setRow_heap _ _ _ _ _ _ ga];simp
  have s2:=c0H (vs:=[u]) (B:=[y]) (A:=pre++us.take i) (C:=us.drop i++post) rfl gb
  have hA2:(pre++us.take i).length=(φ 0).2+0+i:=by simp [hlt,g2]
  rw [hA2,f0f] at s2
  rw [s2]
  have hsz2:((pre++us.take i)++[u]++(us.drop i++post)).toArray.size=((pre++us.take i++[y])++(us.drop (i+1)++[p])++post).toArray.size:=by
   have:=congrArg List.length hy
   simp at this ⊢;omega
  have hk:Keep (fun b=>b=(φ 0).1) w (w.drew.setRow (φ 0).1 ((pre++us.take i)++[u]++(us.drop i++post)).toArray):=by
   have:=(Keep.refl (fun b=>b=(φ 0).1) w).drew.trans (b0l (w:=w.drew) ga hsz2) (fun _ _ h=>h)
   exact this
  have hblk:=setRow_heap w.drew (φ 0).1 _ ((pre++us.take i)++[u]++(us.drop i++post)).toArray _ _ ga
  have hlv:∀ b,b=(φ 0).1→Av X φ [.data 25 xs,.data 25 [fEv l]] b:=fun b e=>by subst e;exact .inr (b0H (r:=0) rfl hl0)
  obtain ⟨m1,m2,m3⟩:=hH.moved (r:=0) rfl hl0 hk (φ 0).1 (φ 0).2 (.data 25 (xs.take i++fEv l :: xs.drop i)) (.inr rfl) (fun hav=>fun _=>⟨pre,us.take i++[u]++us.drop i,post,by rw [a0L];rw [hblk];simp,by rw [a0L];exact g2,by
   have h1:=(((g3.take i).append k3).append (g3.drop i)).keep hk hlv hav
   simpa using h1⟩)
  refine ⟨_,_,_,rfl,⟨rfl,rfl⟩,ext1 φ 2 ((φ 0).1,(φ 0).2),⟨by simp,fun r hr=>a0l hr,hk.mono (fun b _ e=>by subst e;exact b0H (r:=0) rfl hl0),m2⟩,m1,?_⟩
  have hR:=R.sl (P:=Tryz.prog) (w:=w.drew.setRow (φ 0).1 ((pre++us.take i)++[u]++(us.drop i++post)).toArray) (φ:=ext1 φ 2 ((φ 0).1,(φ 0).2)) (A:=Av X (ext1 φ 2 ((φ 0).1,(φ 0).2)) [.dead,.data 25 [fEv l],.data 25 (xs.take i++fEv l :: xs.drop i)]) (N:=3) (r:=2) (off:=0) (n:=n+1) (cap:=cap) (i:=j0) (by omega) (by omega) hroom (by rw [a0L];exact hblk) hj1 (by
   rw [a0L,hj2,hsz2]
   have:=hsz
   simp at this hc0 ⊢
   have h3:=congrArg List.length hy
   simp at h3
   omega)
  rw [a0L] at hR
  exact hR
 ·refine (e1H (φ 0).1 ((φ 0).2+0) n cap i (φ 1).1 ((φ 1).2+0) 1 cap1 us [u] w hi (by omega) hnc (by omega) (by omega) hul rfl hcell hcell1 h1c h1u).mono ?_
  rintro e w' ⟨rfl,rfl⟩
  obtain ⟨G,hG⟩:∃ G,G=grownCap w (n+1) cap 25:=⟨_,rfl⟩
  have hge:n+1≤G:=by rw [hG];exact grownCap_ge w _ _ _
  rw [←hG]
  have hzs:∀ k,(Builtin.zeroCells (Value.slice none 0 0).cells k).size=k:=fun k=>by rw [size_zeroCells];simp [Value.cells]
  obtain ⟨y,Z1,hZ1⟩:∃ y Z,(Builtin.zeroCells (Value.slice none 0 0).cells (n+1-i)).toList=y :: Z:=by
   cases h:(Builtin.zeroCells (Value.slice none 0 0).cells (n+1-i)).toList with
   | nil=>have:=hzs (n+1-i);rw [←Array.length_toList,h] at this;simp at this;omega
   | cons y Z=>exact ⟨y,Z,rfl⟩
  have hZl:Z1.length=n-i:=by have:=hzs (n+1-i);rw [←Array.length_toList,hZ1] at this;simp at this;omega
  obtain ⟨Z2,hZ2⟩:∃ Z,Z=(Builtin.zeroCells (Value.slice none 0 0).cells (G-(n+1))).toList:=⟨_,rfl⟩
  have hZ2l:Z2.length=G-(n+1):=by rw [hZ2,Array.length_toList,hzs]
  have hrow:((us.take i).toArray++Builtin.zeroCells (Value.slice none 0 0).cells (n+1-i)++Builtin.zeroCells (Value.slice none 0 0).cells (G-(n+1)))=(us.take i++[y]++(Z1++Z2)).toArray:=by
   apply Array.ext'
   simp [hZ1,hZ2]
  rw [hrow]
  have hlt:(us.take i).length=i:=by rw [List.length_take];omega
  have ga:(w.alloc (.cells (us.take i++[y]++(Z1++Z2)).toArray 25)).drew.heap[w.heap.size]?=some (.cells (us.take i++[y]++(Z1++Z2)).toArray 25 (0,0)):=heap_alloc_new w _
  have s1:=c0H (vs:=[u]) (B:=[y]) (A:=us.take i) (C:=Z1++Z2) rfl ga
  rw [hlt] at s1
  rw [s1]
  have gb:((w.alloc (.cells (us.take i++[y]++(Z1++Z2)).toArray 25)).drew.setRow w.heap.size (us.take i++[u]++(Z1++Z2)).toArray).drew.heap[w.heap.size]?=some (.cells ((us.take i++[u])++Z1++Z2).toArray 25 (0,0)):=by
   show ((w.alloc (.cells (us.take i++[y]++(Z1++Z2)).toArray 25)).drew.setRow w.heap.size (us.take i++[u]++(Z1++Z2)).toArray).heap[w.heap.size]?=_
   rw [setRow_heap _ _ _ _ _ _ ga];simp
  have s2:=c0H (vs:=us.drop i) (B:=Z1) (A:=us.take i++[u]) (C:=Z2) (by rw [hZl,List.length_drop];omega) gb
  rw [List.length_append,hlt,List.length_singleton] at s2
  rw [s2]
  obtain ⟨W,hW⟩:∃ W,W=((w.alloc (.cells (us.take i++[y]++(Z1++Z2)).toArray 25)).drew.setRow w.heap.size (us.take i++[u]++(Z1++Z2)).toArray).drew:=⟨_,rfl⟩
  rw [←hW] at gb ⊢
  have hk0:Keep (fun _=>False) w W:=by
   rw [hW]
   have h1:=(Keep.alloc (fun _=>False) w (.cells (us.take i++[y]++(Z1++Z2)).toArray 25)).drew
   have h2:=(b0l (w:=(w.alloc (.cells (us.take i++[y]++(Z1++Z2)).toArray 25)).drew) (g:=w.heap.size) (cs:=(us.take i++[u]++(Z1++Z2)).toArray) ga (by simp)).drew
   exact h1.trans h2 (fun b hb e=>by omega)
  have hsz3:(us.take i++[u]++us.drop i++Z2).toArray.size=((us.take i++[u])++Z1++Z2).toArray.size:=by simp;omega
  have hk:Keep (fun _=>False) w (W.setRow w.heap.size (us.take i++[u]++us.drop i++Z2).toArray):=hk0.trans (b0l gb hsz3) (fun b hb e=>by omega)
  have hblk:=setRow_heap W w.heap.size _ (us.take i++[u]++us.drop i++Z2).toArray _ _ gb
  obtain ⟨m1,m2,m3⟩:=hH.moved (r:=0) rfl hl0 (hk.mono (fun _ _ h=>h.elim)) w.heap.size 0 (.data 25 (xs.take i++fEv l :: xs.drop i)) (.inl (Nat.le_refl _)) (fun hav=>fun _=>⟨[],us.take i++[u]++us.drop i,Z2,by rw [a0L];rw [hblk];simp,by rw [a0L];rfl,by
   have h1:=(((g3.take i).append k3).append (g3.drop i)).keep hk (fun _ h=>h.elim) hav
   simpa using h1⟩)
  refine ⟨_,_,_,rfl,⟨rfl,rfl⟩,ext1 φ 2 (w.heap.size,0),⟨by simp,fun r hr=>a0l hr,hk.mono (fun b _ e=>e.elim),m2⟩,m1,?_⟩
  have hR:=R.sl (P:=Tryz.prog) (w:=W.setRow w.heap.size (us.take i++[u]++us.drop i++Z2).toArray) (φ:=ext1 φ 2 (w.heap.size,0)) (A:=Av X (ext1 φ 2 (w.heap.size,0)) [.dead,.data 25 [fEv l],.data 25 (xs.take i++fEv l :: xs.drop i)]) (N:=3) (r:=2) (off:=0) (n:=n+1) (cap:=G) (i:=j0) (by omega) (by omega) hge (by rw [a0L];exact hblk) hj1 (by
   rw [a0L,hj2]
   simp
   omega)
  rw [a0L] at hR
  exact hR
end Go.Proofs.YthjgmldnegaaiaaGreatDoor.Mir
namespace Go.Proofs.YthjgmldnegaaiaaGreatDoor.Mir
open Go Go.RowKit
def b0P:SCode→List Oper
 | .ops l=>l.filterMap fun i=>match i.op with|.raw o=>some o|_=>none
 | .drw l _=>l.filterMap fun i=>match i.op with|.raw o=>some o|_=>none
 | .seq a b=>b0P a++b0P b
 | .cond _ a b=>b0P a++b0P b
 | .block _ a=>b0P a
 | .loop a=>b0P a
 | _=>[]
def b0g (P:Program)(f:FuncId)(k:Nat):SOp:=(((P.funcs[f]?).bind fun fn=>fn.body).bind fun b=>(b0P (a0q P b))[k]?).elim (.mv (.t 0)) .raw
def j0i (P:Program):SCode :=
  (jq ([.a 6 (.mv kN)]) (jq ([jm 10 0,jm 11 1,.a 12 (.sub 1 25 (.t 10) (some (.t 11)) none none)]) (jq ([jm 13 2,je 14 13,jm 7 14]) (.seq (jq ([jm 15
 7,jb 16 .eql 15 0]) (jc 16 (jq ([jm 17 0,jm 6 17]) .ret) .skip)) (jq ([jm 18 0,je 19 18,jm 8 19]) (.seq (jq ([jm 20 1,jm 21 8,jB 22 .eql 20 21])
 (jc 22 (jq ((ap [jm 23 0,jm 24 2,.a 25 (.app 25 1 24 (.t 23) (.t 24))] [jm 6 25])) .ret) .skip)) (.seq (jq ([jm 26 8,jm 27 7,jB 28 .add 26 27,jm
 29 0,.a 30 (b0g P 80 0),jB 31 .gtr 28 30]) (jc 31 (jq ([jm 32 0,jm 33 1,.a 34 (.sub 1 25 (.t 32) none (some (.t 33)) none),jm 35 8,jm 36
 7,jB 37 .add 35 36,jm 38 1,jB 39 .sub 37 38,.a 40 (b0g P 80 1),jm 9 40]) (jq ([jm 41 9,jm 42 1,.a 43 (.sub 1 25 (.t 41) (some (.t 42))
 none none),jm 44 2,.a 45 (b0g P 80 2)]) (.seq (.drw [jm 46 9,jm 47 1,jm 48 7,jB 49 .add 47 48,.a 50 (.sub 1 25 (.t 46) (some (.t 49))
 none none),jm 51 0,jm 52 1,.a 53 (.sub 1 25 (.t 51) (some (.t 52)) none none),.a 54 (b0g P 80 3)] [0,0,0,6,15,0,0,96,255]) (jq ([jm
 55 9,jm 6 55]) .ret)))) .skip)) (jq ([jm 56 0,jm 57 8,jm 58 7,jB 59 .add 57 58,.a 60 (.sub 1 25 (.t 56) none (some (.t 59)) none),jm 0 60]) (.seq
 (jq ((ap [jm 61 2,jm 62 0,jm 63 1,jm 64 7,jB 65 .add 63 64,.a 66 (.sub 1 25 (.t 62) (some (.t 65)) none none),.a 67 (.call (kC 127) [(.t 61),(.t
 66)])] [.a 68 (.unot (.t 67))])) (jc 68 (.seq (.drw [jm 69 0,jm 70 1,jm 71 7,jB 72 .add 70 71,.a 73 (.sub 1 25 (.t 69) (some (.t 72)) none none),
 jm 74 0,jm 75 1,.a 76 (.sub 1 25 (.t 74) (some (.t 75)) none none),.a 77 (b0g P 80 4)] [0,0,0,6,15,0,0,96,255]) (jq ([jm 78 0,jm 79
 1,.a 80 (.sub 1 25 (.t 78) (some (.t 79)) none none),jm 81 2,.a 82 (b0g P 80 5)]) (jq ([jm 83 0,jm 6 83]) .ret))) .skip)) (jq ([jm 84 0,jm
 85 8,.a 86 (.sub 1 25 (.t 84) (some (.t 85)) none none),jm 87 2,.a 88 (b0g P 80 6)]) (jq ([jm 89 0,jm 90 1,.a 91 (.sub 1 25 (.t 89) (some
 (.t 90)) none none),jm 92 7,.a 93 (.call (kC 128) [(.t 91),(.t 92)])]) (jq ([jm 94 0,jm 6 94]) .ret))))))))))))
theorem r0Z:Fn Tryz.prog 80 95 [.t 6] (j0i Tryz.prog):=.of Tryz.func80 (by kernel_rfl)
set_option maxHeartbeats 4000000
set_option maxRecDepth 100000 in
theorem q0V (t:Br)(l:List Ev)(ht:t.length≤1000):Con Tryz.prog 80 [.sl 0 0 t.length,D.int t.length,.sl 1 0 1] [.data 25 (t.map fEv),.data 25 [fEv l]] fun r H' =>
  r = .sl 2 0 (t.length+1)∧H'=[.dead,.data 25 [fEv l],.data 25 ((t++[l]).map fEv)]:=by
 refine Con.walk good r0Z (by simp) ?_
 unfold j0i
 simp only [a0J]
 have hl:(t.map fEv).length=t.length:=List.length_map _
 repeat' (with_reducible first|refine Wx.h ?_|refine Wb.h fun K hK=>?_|(refine hK _ ?_;clear hK K)|((fail_if_success refine Wz.h ?_);first|simp (disch:=omega) only [↓LD,LA,a0A,seval,LBr,hl,w0J]|(refine And.intro ?_ ?_;omega)|fail))
 all_goals exact endA rfl rfl ⟨rfl,rfl⟩
theorem u0G (t:Br)(i:Nat)(l:List Ev)(hi:i≤t.length)(ht:t.length≤1000):Con Tryz.prog 80 [.sl 0 0 t.length,D.int i,.sl 1 0 1] [.data 25 (t.map fEv),.data 25 [fEv l]] fun r H' =>
  r = .sl 2 0 (t.length+1)∧H'=[.dead,.data 25 [fEv l],.data 25 ((t.take i++l :: t.drop i).map fEv)]:=by
 by_cases h:i<t.length
 ·exact p0P t i l h ht
 ·obtain rfl:i=t.length:=by omega
  rw [List.take_length,List.drop_length]
  exact q0V t l ht
set_option maxRecDepth 100000 in
theorem t0D (t:Br)(l:List Ev)(ht:TrK t)(hl:BrOk l):Con Tryz.prog 76 [.sl 0 0 t.length,.fn 79 [.pt 1 0]] [.data 25 (t.map fEv),bxB l] fun r H'=>r=D.int (idxF (fun x=>decide (0<cmpI (ofL l) (ofL x))) 0 t)∧H'=[.data 25 (t.map fEv),bxB l]:=by
 have htl:=ht.len
 refine Con.walk good k0n (by simp) ?_
 unfold g0o
 simp only [a0J]
 repeat' (with_reducible first|refine Wx.h ?_|refine Wb.h fun K hK=>?_|(refine hK _ ?_;clear hK K)|((fail_if_success refine Wz.h ?_);simp (disch:=omega) only [↓LD,LA,a0A,seval]))
 refine HS.loopG [0,1,7,8] (fun i:Nat=>⟨frm 19 [(0,.sl 0 0 t.length),(1,.fn 79 [.pt 1 0]),(7,D.int t.length),(8,D.int i)],[.data 25 (t.map fEv),bxB l],[]⟩) (fun i=>i≤t.length∧idxF (fun x=>decide (0<cmpI (ofL l) (ofL x))) 0 t=idxF (fun x=>decide (0<cmpI (ofL l) (ofL x))) i (t.drop i)) (fun i=>t.length-i) 0 (by kernel_rfl) ⟨Nat.zero_le _,rfl⟩ ?_
 rintro i ⟨hi,hF⟩
 by_cases hil:i<t.length
 ·obtain ⟨ok,ne⟩:=ht.gt hil
  rw [a0I hil,idxF] at hF
  repeat' (with_reducible first|refine Wx.h ?_|refine Wb.h fun K hK=>?_|(refine hK _ ?_;clear hK K)|refine Wq.h ?_ ?_<;>intro h<;>try (exfalso;omega)|((fail_if_success refine Wz.h ?_);first|simp (disch:=omega) only [↓LD,LA,a0A,seval,LBr]|(refine And.intro ?_ ?_;omega)|fail))
  refine a0D (x0u (gt t i) l ok.idL hl.idL ok.ofK hl.ofK) [1] (by kernel_rfl) rfl rfl ?_
  rintro _ _ ⟨rfl,rfl⟩
  by_cases hc:0<cmpI (ofL l) (ofL (gt t i))
  ·rw [decide_eq_true hc] at hF ⊢
   rw [if_pos rfl] at hF
   simp (disch:=omega) only [↓LD,LA,a0A,seval,ren,List.getElem?_nil,bxB]
   repeat' (with_reducible first|refine Wx.h ?_|refine Wb.h fun K hK=>?_|(refine hK _ ?_;clear hK K)|((fail_if_success refine Wz.h ?_);simp (disch:=omega) only [↓LD,LA,a0A,seval]))
   rw [hF]
   exact endA rfl rfl ⟨rfl,rfl⟩
  ·rw [decide_eq_false hc] at hF ⊢
   rw [if_neg (by simp)] at hF
   simp (disch:=omega) only [↓LD,LA,a0A,seval,ren,List.getElem?_nil,bxB]
   repeat' (with_reducible first|refine Wx.h ?_|refine Wb.h fun K hK=>?_|(refine hK _ ?_;clear hK K)|((fail_if_success refine Wz.h ?_);simp (disch:=omega) only [↓LD,LA,a0A,seval]))
   exact Next.mk (i+1) (by kernel_rfl) ⟨by omega,hF⟩ (by omega)
 ·rw [List.drop_of_length_le (by omega)] at hF
  repeat' (with_reducible first|refine Wx.h ?_|refine Wb.h fun K hK=>?_|(refine hK _ ?_;clear hK K)|refine Wq.h ?_ ?_<;>intro h<;>try (exfalso;omega)|((fail_if_success refine Wz.h ?_);simp (disch:=omega) only [↓LD,LA,a0A,seval]))
  rw [hF]
  exact endA rfl rfl ⟨rfl,rfl⟩
theorem i0z:∀ {l b:List Ev},a0Q l b=b.length↔b <+: l
 | l,[]=>by cases l<;>simp [a0Q]
 | [],y :: b=>by simp [a0Q]
 | x :: l,y :: b=>by
  rw [a0Q,List.length_cons,List.cons_prefix_cons]
  by_cases e:x=y
  ·rw [if_pos (f0S e)]
   have:=i0z (l:=l) (b:=b)
   constructor
   ·intro h;exact ⟨e.symm,this.1 (by omega)⟩
   ·rintro ⟨_,h⟩;rw [this.2 h]
  ·rw [if_neg (by rw [f0R e];simp)]
   constructor
   ·intro h;omega
   ·rintro ⟨h,_⟩;exact absurd h.symm e
theorem c1x {l:List Ev}(hl:l≠[]):∀ {o:Br} {k:Nat},(∀ b∈o,b≠[]∧a0i b≠a0i l)→(idxF (fun x=>decide (0<cmpI (ofL l) (ofL x))) k o = -1∧posK l o=o.length)∨idxF (fun x=>decide (0<cmpI (ofL l) (ofL x))) k o=(k+posK l o:Nat)∧posK l o<o.length
 | [],k,_=>.inl ⟨rfl,rfl⟩
 | b :: o,k,h=>by
  obtain ⟨hb,hv⟩:=h b (by simp)
  have ih:=c1x hl (o:=o) (k:=k+1) fun x hx=>h x (by simp [hx])
  have c1:=i0C hb hl hv
  have c2:=i0C hl hb (fun e=>hv e.symm)
  rw [idxF,posK]
  by_cases hc:0<cmpI (ofL l) (ofL b)
  ·rw [if_pos (by simpa using hc),if_neg (by rw [c1];have:=c2.1 hc;omega)]
   exact .inr ⟨by simp,by simp⟩
  ·rw [if_neg (by simpa using hc),if_pos (by rw [c1];have:=mt c2.2 hc;omega)]
   rcases ih with ⟨h1,h2⟩|⟨h1,h2⟩
   ·exact .inl ⟨h1,by rw [h2];simp⟩
   ·exact .inr ⟨by rw [h1];congr 1;omega,by simp;omega⟩
instance {l:List Ev}{H:List Row}{K:Bool→D→List Row→Prop}[hl:Kn (BrOk l∧l≠[])]:Wa (a0m Tryz.prog (.fn 78 []) [.f (fEv l)] H K) (K true (.f (.v (.int .i64 (a0i l)))) H):=⟨fun h=>a0O (r0N l hl.h.1.idL hl.h.1.ofK) rfl rfl rfl (by rw [c0n hl.h.2];exact h)⟩
noncomputable def k0Q (t:Br)(l:List Ev):Br × Int :=
 if (t.filter fun b=>!begB b l).any (fun b=>decide (a0i b=a0i l))=true then ([],1) else if 8≤(t.filter fun b=>!begB b l).length then ([],2) else (insU l (t.filter fun b=>!begB b l),0)
set_option maxRecDepth 100000 in
theorem c1S (t:Br)(l:List Ev)(ht:TrK t)(hl:BrOk l)(hne:l≠[]):Con Tryz.prog 47 [.ag [.f (fBr t)],.f (fEv l)] [] fun r H'=>r = .tp [.ag [.f (fBr (k0Q t l).1)],D.int (k0Q t l).2]∧H'=[]:=by
 suffices hh:∀ Q:D→List Row→Prop,(∀ o e,k0Q t l=(o,e)→Q (.tp [.ag [.f (fBr o)],D.int e]) [])→Con Tryz.prog 47 [.ag [.f (fBr t)],.f (fEv l)] [] Q from hh _ fun o e h=>⟨by rw [h],rfl⟩
 intro Q hQ
 unfold k0Q at hQ
 have htl:=ht.len
 have hll:=hl.len
 haveI:Kn (FitL l):=⟨hl.fitL⟩
 haveI:Kn (BrOk l∧l≠[]):=⟨hl,hne⟩
 refine Con.walk good y0H (by simp) ?_
 unfold q0O
 simp only [a0J]
 repeat' (with_reducible first|refine Wx.h ?_|refine Wb.h fun K hK=>?_|(refine hK _ ?_;clear hK K)|((fail_if_success refine Wz.h ?_);simp (disch:=omega) only [↓LD,LA,a0A,seval,LBr]))
 refine HS.view (View.void 25) ?_
 refine HS.view (View.bcell 3 0 (.sl 4 0 0) rfl rfl (.no (by show 4<5;omega))) ?_
 refine HS.loopG [3,4,5,6,11,12,13] (fun i:Nat=>⟨frm 59 [(3,.pt 0 0),(4,.pt 1 0),(5,jI),(6,.pt 2 0),(11,.f (fBr t)),(12,D.int t.length),(13,D.int i)],[bxB l,.box 30 [jN],.box 30 [.sl 3 0 ((t.take i).filter fun b=>!begB b l).length],.data 25 (((t.take i).filter fun b=>!begB b l).map fEv)],[]⟩) (fun i=>i≤t.length∧∀ b∈(t.take i).filter (fun b=>!begB b l),a0i b≠a0i l) (fun i=>t.length-i) 0 (by kernel_rfl) ⟨Nat.zero_le _,fun b h=>by simp at h⟩ ?_
 rintro i ⟨hi,hv⟩
 have hol:((t.take i).filter fun b=>!begB b l).length≤i:=by
  have:=List.length_filter_le (fun b=>!begB b l) (t.take i)
  rw [List.length_take] at this;omega
 by_cases hil:i<t.length
 ·obtain ⟨ok,ne⟩:=ht.gt hil
  haveI:Kn (FitL (gt t i)):=⟨ok.fitL⟩
  haveI:Kn (BrOk (gt t i)∧gt t i≠[]):=⟨ok,ne⟩
  have ht1:t.take (i+1)=t.take i++[gt t i]:=by rw [List.take_succ_eq_append_getElem hil,a0v hil]
  have hbt:gt t i∈t:=a0M hil
  have hsb:=i0z (l:=l) (b:=gt t i)
  generalize hb:gt t i=b at *
  by_cases hp:b <+: l
  ·have he:(a0Q l b:Int)=b.length:=by have:=hsb.2 hp;omega
   have hf:(t.take (i+1)).filter (fun b=>!begB b l)=(t.take i).filter fun b=>!begB b l:=by
    rw [ht1,List.filter_append,List.filter_cons,if_neg (by rw [begB_iff.2 hp];simp),List.filter_nil,List.append_nil]
   rw [←hf] at hv
   generalize (t.take i).filter (fun b=>!begB b l)=o at *
   repeat' (with_reducible first|refine Wx.h ?_|refine Wb.h fun K hK=>?_|(refine hK _ ?_;clear hK K)|refine Wq.h ?_ ?_<;>intro h<;>try (exfalso;omega)|((fail_if_success refine Wz.h ?_);first|simp (disch:=omega) only [↓LD,LA,a0A,seval,LBr,LEv,bxB,hb,he]|(refine And.intro ?_ ?_;omega)|fail))
   exact Next.mk (i+1) (by rw [hf];kernel_rfl) ⟨by omega,hv⟩ (by omega)
  have he:¬ (a0Q l b:Int)=b.length:=fun h=>hp (hsb.1 (by omega))
  have hf:(t.take (i+1)).filter (fun b=>!begB b l)=(t.take i).filter (fun b=>!begB b l)++[b]:=by
   rw [ht1,List.filter_append,List.filter_cons,if_pos (by rw [begB_f.2 hp];rfl),List.filter_nil]
  by_cases hvv:a0i b=a0i l
  ·have hq:=hQ [] 1 (if_pos (List.any_eq_true.2 ⟨b,mem_fil.2 ⟨hbt,hp⟩,decide_eq_true hvv⟩))
   generalize (t.take i).filter (fun b=>!begB b l)=o at *
   repeat' (with_reducible first|refine Wx.h ?_|refine We.h fun K hK=>?_|(refine hK _ _ _ _ ?_;clear hK K;try clear hM M)|refine Wb.h fun K hK=>?_|(refine hK _ ?_;clear hK K)|(refine Wy.h ?_ ?_;kernel_rfl)|refine Wq.h ?_ ?_<;>intro h<;>try (exfalso;omega)|((fail_if_success refine Wz.h ?_);first|simp (disch:=omega) only [↓LD,LA,a0A,seval,LBr,LEv,bxB,hb,he,hvv]|(refine And.intro ?_ ?_;omega)|fail))
   all_goals exact RetS.still (ds:=[.ag [jN],D.int 1]) (by kernel_rfl) (by kernel_rfl) (.tps (.cons (.ags (.cons .nil .nil)) (.cons .f .nil))) hq
  ·have hv2:∀ x∈(t.take (i+1)).filter (fun b=>!begB b l),a0i x≠a0i l:=fun x hx=>by
    rw [hf] at hx
    rcases List.mem_append.1 hx with hx|hx
    ·exact hv x hx
    ·rw [List.mem_singleton.1 hx];exact hvv
   generalize (t.take i).filter (fun b=>!begB b l)=o at *
   have hlo:(o.map fEv).length=o.length:=List.length_map _
   have hl2:(o++[b]).length=o.length+1:=by simp
   repeat' (with_reducible first|refine Wx.h ?_|refine We.h fun K hK=>?_|(refine hK _ _ _ _ ?_;clear hK K;try clear hM M)|refine Wb.h fun K hK=>?_|(refine hK _ ?_;clear hK K)|(refine Wy.h ?_ ?_;kernel_rfl)|refine Wq.h ?_ ?_<;>intro h<;>try (exfalso;omega)|((fail_if_success refine Wz.h ?_);first|simp (disch:=omega) only [↓LD,LA,a0A,seval,LBr,LEv,bxB,hb,he,hvv,hlo,w0J]|(refine And.intro ?_ ?_;omega)|fail))
   all_goals exact Next.mk (i+1) (by rw [hf,hl2];kernel_rfl) ⟨by omega,hv2⟩ (by omega)
 rw [List.take_of_length_le (by omega)] at hv hol ⊢
 have hto:TrK (t.filter fun b=>!begB b l):=⟨by omega,fun b hb=>ht.ok b (List.mem_filter.1 hb).1⟩
 have hip:=c1x hne (o:=t.filter fun b=>!begB b l) (k:=0) fun b hb=>⟨(hto.ok b hb).2,hv b hb⟩
 have hidx:=t0D _ l hto hl
 rw [if_neg (by rw [Bool.not_eq_true,List.any_eq_false];intro b hb;simpa using hv b hb)] at hQ
 unfold insU at hQ
 clear hv
 generalize (t.filter fun b=>!begB b l)=o at *
 by_cases h8:8≤o.length
 ·have hq:=hQ [] 2 (if_pos h8)
  repeat' (with_reducible first|refine Wx.h ?_|refine Wb.h fun K hK=>?_|(refine hK _ ?_;clear hK K)|refine Wq.h ?_ ?_<;>intro h<;>try (exfalso;omega)|((fail_if_success refine Wz.h ?_);simp (disch:=omega) only [↓LD,LA,a0A,seval,LBr,bxB]))
  all_goals exact RetS.still (ds:=[.ag [jN],D.int 2]) (by kernel_rfl) (by kernel_rfl) (.tps (.cons (.ags (.cons .nil .nil)) (.cons .f .nil))) hq
 have hq:=hQ _ 0 (if_neg h8)
 have hkl:=c1G (l:=l) (t:=o)
 have hins:TrK (o.take (posK l o)++l :: o.drop (posK l o)):=⟨by rw [List.length_append,List.length_cons,List.length_take,List.length_drop];omega,fun b hb=>by
  rcases insU_mem.1 (show b∈insU l o from hb) with rfl|hb
  ·exact ⟨hl,hne⟩
  ·exact hto.ok b hb⟩
 have hnl:(o.take (posK l o)++l :: o.drop (posK l o)).length=o.length+1:=by rw [List.length_append,List.length_cons,List.length_take,List.length_drop];omega
 have hI:=u0G o (posK l o) l hkl (by omega)
 have hC:=k0c _ hins
 repeat' (with_reducible first|refine Wx.h ?_|refine Wb.h fun K hK=>?_|(refine hK _ ?_;clear hK K)|refine Wq.h ?_ ?_<;>intro h<;>try (exfalso;omega)|((fail_if_success refine Wz.h ?_);simp (disch:=omega) only [↓LD,LA,a0A,seval,LBr,bxB]))
 all_goals
  refine a0D hidx [3,0] (by kernel_rfl) rfl rfl ?_
  rintro _ _ ⟨rfl,rfl⟩
  generalize posK l o=k at *
  generalize o.take k++l :: o.drop k=z at *
  rcases hip with ⟨h1,rfl⟩|⟨h1,h2⟩
  all_goals
   rw [h1]
   simp (disch:=omega) only [↓LD,LA,a0A,seval,ren,List.getElem?_nil,bxB]
   repeat' (with_reducible first|refine Wx.h ?_|refine Wb.h fun K hK=>?_|(refine hK _ ?_;clear hK K)|refine Wq.h ?_ ?_<;>intro h<;>try (exfalso;omega)|((fail_if_success refine Wz.h ?_);simp (disch:=omega) only [↓LD,LA,a0A,seval,LBr]))
   refine a0D hI [3,4] (by kernel_rfl) rfl rfl ?_
   rintro _ _ ⟨rfl,rfl⟩
   simp (disch:=omega) only [↓LD,LA,a0A,seval,ren,List.getElem?_nil,bxB]
   repeat' (with_reducible first|refine Wx.h ?_|refine Wb.h fun K hK=>?_|(refine hK _ ?_;clear hK K)|((fail_if_success refine Wz.h ?_);simp (disch:=omega) only [↓LD,LA,a0A,seval,LBr]))
   refine d0M [5] (args0:=[.ag [.f (fBr z)]]) (.cons (.ags (.cons (d1i rfl rfl hnl.symm) .nil)) .nil) ?_
   refine a0C hC rfl rfl rfl ?_
   simp only [layV,List.foldr_cons,List.foldr_nil,List.set_cons_succ,List.set_cons_zero]
   repeat' (with_reducible first|refine Wx.h ?_|(refine hK _ ?_;clear hK K)|((fail_if_success refine Wz.h ?_);simp (disch:=omega) only [↓LD,LA,a0A,seval,LBr]))
   exact RetS.still (ds:=[.ag [.f (fBr z)],D.int 0]) (by kernel_rfl) (by kernel_rfl) (.tps (.cons (.ags (.cons .f .nil)) (.cons .f .nil))) hq
noncomputable def addQ (t:Br)(k:Int)(l:List Ev):Br × Bool × Int :=
 if (a0N s0 l).1≠0 then ([],false,1) else if (t.any fun x=>h0N l x k)=true then ([],false,1)
 else if (t.any fun x=>decide ((a0Q l x:Int)=l.length))=true then (t,false,0) else ((k0Q t l).1,decide ((k0Q t l).2=0),(k0Q t l).2)
noncomputable def addP (t:Br)(pre:List Im)(evs:List Ev):Br × Bool × Int :=
 if evs.length=0∨c0x pre=false then ([],false,1) else match d0u t pre with
 | none=>([],false,4)
 | some hd=>addQ t hd.length (hd++evs)
set_option maxRecDepth 100000 in
theorem x0p (t:Br)(ht:TrK t):Con Tryz.prog 21 [.ag [.f (fBr t)],.f (fIm [])] [] fun r H'=>r = .tp [.sl 0 0 0,D.bool true]∧H'=[rEv []]:=by
 refine Con.walk good m0Q (by simp) ?_
 unfold i0x
 simp only [a0J]
 haveI:Kn (([]:List Im).length≤1000000):=⟨by simp⟩
 refine HS.seq ?_
 repeat' (with_reducible first|refine Wa.h ?_|refine Wb.h fun K hK=>?_|(refine hK _ ?_;clear hK K)|((fail_if_success refine Wz.h ?_);simp (disch:=omega) only [↓LD,LA,a0A,seval,LIm,LBr]))
 refine HS.seq ?_
 repeat' (with_reducible first|refine Wa.h ?_|refine Wb.h fun K hK=>?_|(refine hK _ ?_;clear hK K)|((fail_if_success refine Wz.h ?_);simp (disch:=omega) only [↓LD,LA,a0A,seval,LIm,LBr]))
 refine HS.seq ?_
 refine HS.seq ?_
 repeat' (with_reducible first|refine Wa.h ?_|refine Wb.h fun K hK=>?_|(refine hK _ ?_;clear hK K)|((fail_if_success refine Wz.h ?_);simp (disch:=omega) only [↓LD,LA,a0A,seval,LIm,LBr]))
 repeat' (with_reducible first|refine Wa.h ?_|refine Ws.h ?_|refine Wb.h fun K hK=>?_|(refine hK _ ?_;clear hK K)|((fail_if_success refine Wz.h ?_);simp (disch:=omega) only [↓LD,LA,a0A,seval,LIm,LBr]))
 refine HS.view (View.void 73) ?_
 refine HS.view (View.slot 4 (.sl 1 0 0) (.no (by show 1<2;omega))) ?_
 repeat' (with_reducible first|refine Wx.h ?_|fail)
 exact i1A rfl rfl rfl rfl (ef:=⟨.tp [.sl 0 0 0,D.bool true],[],[rEv []]⟩) (by kernel_rfl) ⟨rfl,rfl⟩
theorem x0r (t:Br)(pre:List Im)(ht:TrK t)(hp:pre.length≤1000000):Con Tryz.prog 21 [.ag [.f (fBr t)],.f (fIm pre)] [] fun r H'=>match d0u t pre with
  | none=>r = .tp [jN,D.bool false]∧H'=[]
  | some hd=>r = .tp [.sl 0 0 hd.length,D.bool true]∧H'=[rEv hd]:=by
 by_cases h0:pre.length=0
 ·have hfn:d0u t pre=some []:=by unfold d0u;rw [if_pos h0]
  rw [hfn]
  obtain rfl:=List.eq_nil_of_length_eq_zero h0
  exact x0p t ht
 ·exact z0h t pre ht hp h0
set_option maxRecDepth 100000 in
theorem d1v (t:Br)(d0 d1:F)(pre:List Im)(evs:List Ev)(ht:TrK t)(hp:pre.length≤1000000)(hf:FitL evs)(hb:∀ hd,d0u t pre=some hd→FitL (hd++evs)∧((a0N s0 (hd++evs)).1=0→BrOk (hd++evs))):Con Tryz.prog 12 [.ag [.f (fBr t)],.ag [.f d0,.f d1,.f (fIm pre),.f (fEv evs)]] [] fun r H'=>r = .tp [.ag [.f (fBr (addP t pre evs).1)],D.bool (addP t pre evs).2.1,D.int (addP t pre evs).2.2]∧H'=[]:=by
 suffices hh:∀ Q:D→List Row→Prop,(∀ o b e,addP t pre evs=(o,b,e)→Q (.tp [.ag [.f (fBr o)],D.bool b,D.int e]) [])→Con Tryz.prog 12 [.ag [.f (fBr t)],.ag [.f d0,.f d1,.f (fIm pre),.f (fEv evs)]] [] Q from hh _ fun o b e h=>⟨by rw [h],rfl⟩
 intro Q hQ
 unfold addP at hQ
 have htl:=ht.len
 have hfl:=hf.1
 refine Con.walk good a1A (by simp) ?_
 unfold w0u
 simp only [a0J]
 have hR:=x0y pre hp
 by_cases hz:(evs.length:Int)=0
 ·have h1:=hQ [] false 1 (if_pos (.inl (by omega)))
  repeat' (with_reducible first|refine Wx.h ?_|refine Wb.h fun K hK=>?_|(refine hK _ ?_;clear hK K)|(refine wT ?_ ?_;assumption)|((fail_if_success refine Wz.h ?_);simp (disch:=omega) only [↓LD,LA,a0A,seval,LEv,LBr,a0K]))
  exact RetS.still (ds:=[.ag [jN],D.bool false,D.int 1]) (by kernel_rfl) (by kernel_rfl) (q0T .f .f) h1
 cases hr:c0x pre with
 | false =>
  rw [hr] at hR
  have h1:=hQ [] false 1 (if_pos (.inr hr))
  repeat' (with_reducible first|refine Wx.h ?_|refine Wb.h fun K hK=>?_|(refine hK _ ?_;clear hK K)|(refine wF ?_ ?_;assumption)|((fail_if_success refine Wz.h ?_);simp (disch:=omega) only [↓LD,LA,a0A,seval,LEv,LBr,a0K]))
  refine a0C hR rfl rfl rfl ?_
  repeat' (with_reducible first|refine Wx.h ?_|refine Wb.h fun K hK=>?_|(refine hK _ ?_;clear hK K)|((fail_if_success refine Wz.h ?_);simp (disch:=omega) only [↓LD,LA,a0A,seval,LEv,LBr,a0K]))
  exact RetS.still (ds:=[.ag [jN],D.bool false,D.int 1]) (by kernel_rfl) (by kernel_rfl) (q0T .f .f) h1
 | true =>
  rw [hr] at hR
  rw [if_neg (fun h=>h.elim (fun h=>hz (by omega)) (fun h=>by rw [hr] at h;cases h))] at hQ
  repeat' (with_reducible first|refine Wx.h ?_|refine Wb.h fun K hK=>?_|(refine hK _ ?_;clear hK K)|(refine wF ?_ ?_;assumption)|((fail_if_success refine Wz.h ?_);simp (disch:=omega) only [↓LD,LA,a0A,seval,LEv,LBr,a0K]))
  refine a0C hR rfl rfl rfl ?_
  repeat' (with_reducible first|refine Wx.h ?_|refine Wb.h fun K hK=>?_|(refine hK _ ?_;clear hK K)|((fail_if_success refine Wz.h ?_);simp (disch:=omega) only [↓LD,LA,a0A,seval,LEv,LBr,a0K]))
  have hF:=x0r t pre ht hp
  cases hfp:d0u t pre with
  | none =>
   rw [hfp] at hQ hF
   have h1:=hQ [] false 4 rfl
   refine a0C hF rfl rfl rfl ?_
   repeat' (with_reducible first|refine Wx.h ?_|refine Wb.h fun K hK=>?_|(refine hK _ ?_;clear hK K)|((fail_if_success refine Wz.h ?_);simp (disch:=omega) only [↓LD,LA,a0A,seval,LEv,LBr,a0K,c0g]))
   exact RetS.still (ds:=[.ag [jN],D.bool false,D.int 4]) (by kernel_rfl) (by kernel_rfl) (q0T .f .f) h1
  | some hd =>
   rw [hfp] at hQ hF
   obtain ⟨hfl2,hbr⟩:=hb hd hfp
   have hl2:=hfl2.1
   rw [List.length_append] at hl2
   refine a0D hF [] (by kernel_rfl) rfl rfl ?_
   rintro _ _ ⟨rfl,rfl⟩
   simp (disch:=omega) only [↓LD,LA,a0A,seval,ren,List.getElem?_nil,rEv]
   repeat' (with_reducible first|refine Wa.h ?_|(refine hK _ ?_;clear hK K)|((fail_if_success refine Wz.h ?_);simp (disch:=omega) only [↓LD,LA,a0A,seval,LEv,LBr,a0K,c0g]))
   refine HS.seq ?_
   refine HS.seq ?_
   repeat' (with_reducible first|refine Wa.h ?_|refine Wb.h fun K hK=>?_|(refine hK _ ?_;clear hK K)|((fail_if_success refine Wz.h ?_);simp (disch:=omega) only [↓LD,LA,a0A,seval,LEv,LBr,a0K,c0g]))
   refine HS.seq ?_
   repeat' (with_reducible first|refine Wa.h ?_|refine Wb.h fun K hK=>?_|(refine hK _ ?_;clear hK K)|refine Wq.h ?_ ?_<;>intro h<;>try (exfalso;omega)|((fail_if_success refine Wz.h ?_);first|simp (disch:=omega) only [↓LD,LA,a0A,seval,LEv,LBr,a0K,c0g]|(refine And.intro ?_ ?_;omega)|fail))
   refine HS.view (View.fzb 5 0 4 rfl rfl rfl n0J (by rw [List.length_append,a0K,a0K,Nat.add_mul]) (by decide)) ?_
   have hfe:F.s (hd.flatMap Ev.cs++evs.flatMap Ev.cs) (hd.length+evs.length)=fEv (hd++evs):=by unfold fEv;rw [List.flatMap_append,List.length_append]
   rw [hfe]
   dsimp only at hQ
   unfold addQ at hQ
   have hFo:=s0R (hd++evs) hfl2.1 hfl2.2
   clear hfe hfp hF hR
   have hll:0<(hd++evs).length:=by rw [List.length_append];omega
   generalize hd++evs=l at *
   generalize hd.length=k at *
   repeat' (with_reducible first|refine Wx.h ?_|refine Wb.h fun K hK=>?_|((fail_if_success refine Wz.h ?_);simp (disch:=omega) only [↓LD,LA,a0A,seval,LEv,LBr]))
   refine a0C hFo rfl rfl rfl ?_
   clear hFo
   generalize hs:(a0N s0 l).2=s
   obtain ⟨b1,b2,b3,b4,b5,b6,b7,b8,b9⟩:=s
   by_cases hfo:(a0N s0 l).1=0
   rotate_left
   ·have h1:=hQ [] false 1 (if_pos hfo)
    repeat' (with_reducible first|refine Wx.h ?_|refine Wb.h fun K hK=>?_|(refine hK _ ?_;clear hK K)|(refine wF ?_ ?_;assumption)|((fail_if_success refine Wz.h ?_);simp (disch:=omega) only [↓LD,LA,a0A,seval,LEv,LBr,stD]))
    exact RetS.still (ds:=[.ag [jN],D.bool false,D.int 1]) (by kernel_rfl) (by kernel_rfl) (q0T .f .f) h1
   rw [if_neg (fun h=>h hfo)] at hQ
   have hlk:=hbr hfo
   clear hbr
   rw [hfo]
   clear hfo
   have hC1:=j0a t 42 [.pt 0 0,.pt 1 0] [bxB l,bxI k] (fun x=>h0N l x k) (by omega) fun x hx=>a1c x l k (ht.ok x hx).1.fitL hlk.fitL
   have hC2:=j0a t 44 [.pt 0 0] [bxB l] (fun x=>decide ((a0Q l x:Int)=l.length)) (by omega) fun x hx=>z0P x l (ht.ok x hx).1.fitL hlk.fitL
   have hne:l≠[]:=fun e=>by
    rw [e] at hll
    exact absurd hll (by simp)
   have hW:=c1S t l ht hlk hne
   have hcp:=k0c t ht
   repeat' (with_reducible first|refine Wx.h ?_|refine Wb.h fun K hK=>?_|(refine hK _ ?_;clear hK K)|((fail_if_success refine Wz.h ?_);simp (disch:=omega) only [↓LD,LA,a0A,seval,LEv,LBr,stD]))
   refine a0D hC1 [5,7] (by kernel_rfl) rfl rfl ?_
   rintro _ _ ⟨rfl,rfl⟩
   simp (disch:=omega) only [↓LD,LA,a0A,seval,ren,List.getElem?_nil,bxB,bxI]
   clear hC1
   cases h1:t.any fun x=>h0N l x k with
   | true =>
    have hq:=hQ [] false 1 (if_pos h1)
    repeat' (with_reducible first|refine Wx.h ?_|refine Wb.h fun K hK=>?_|(refine hK _ ?_;clear hK K)|((fail_if_success refine Wz.h ?_);simp (disch:=omega) only [↓LD,LA,a0A,seval,LEv,LBr]))
    exact RetS.still (ds:=[.ag [jN],D.bool false,D.int 1]) (by kernel_rfl) (by kernel_rfl) (q0T .f .f) hq
   | false =>
    rw [if_neg (by rw [h1];simp)] at hQ
    clear h1
    repeat' (with_reducible first|refine Wx.h ?_|refine Wb.h fun K hK=>?_|(refine hK _ ?_;clear hK K)|((fail_if_success refine Wz.h ?_);simp (disch:=omega) only [↓LD,LA,a0A,seval,LEv,LBr]))
    refine a0D hC2 [5] (by kernel_rfl) rfl rfl ?_
    rintro _ _ ⟨rfl,rfl⟩
    simp (disch:=omega) only [↓LD,LA,a0A,seval,ren,List.getElem?_nil,bxB,bxI]
    clear hC2
    cases h1:t.any fun x=>decide ((a0Q l x:Int)=l.length) with
    | true =>
     have hq:=hQ t false 0 (if_pos h1)
     repeat' (with_reducible first|refine Wx.h ?_|refine Wb.h fun K hK=>?_|(refine hK _ ?_;clear hK K)|((fail_if_success refine Wz.h ?_);simp (disch:=omega) only [↓LD,LA,a0A,seval,LEv,LBr]))
     refine a0C hcp rfl rfl rfl ?_
     repeat' (with_reducible first|refine Wx.h ?_|(refine hK _ ?_;clear hK K)|((fail_if_success refine Wz.h ?_);simp (disch:=omega) only [↓LD,LA,a0A,seval,LEv,LBr]))
     exact RetS.still (ds:=[.ag [.f (fBr t)],D.bool false,D.int 0]) (by kernel_rfl) (by kernel_rfl) (.tps (.cons (.ags (.cons .f .nil)) (.cons .f (.cons .f .nil)))) hq
    | false =>
     rw [if_neg (by rw [h1];simp)] at hQ
     clear h1
     have hq:=hQ _ _ _ rfl
     clear hQ
     generalize (k0Q t l).1=o at *
     generalize (k0Q t l).2=e at *
     repeat' (with_reducible first|refine Wx.h ?_|refine Wb.h fun K hK=>?_|(refine hK _ ?_;clear hK K)|((fail_if_success refine Wz.h ?_);simp (disch:=omega) only [↓LD,LA,a0A,seval,LEv,LBr]))
     refine a0C hW rfl rfl rfl ?_
     by_cases he:e=0
     ·rw [decide_eq_true he] at hq
      repeat' (with_reducible first|refine Wx.h ?_|refine Wb.h fun K hK=>?_|(refine hK _ ?_;clear hK K)|(refine wT ?_ ?_;assumption)|((fail_if_success refine Wz.h ?_);simp (disch:=omega) only [↓LD,LA,a0A,seval,LEv,LBr]))
      exact RetS.still (ds:=[.ag [.f (fBr o)],D.bool true,D.int e]) (by kernel_rfl) (by kernel_rfl) (.tps (.cons (.ags (.cons .f .nil)) (.cons .f (.cons .f .nil)))) hq
     ·rw [decide_eq_false he] at hq
      repeat' (with_reducible first|refine Wx.h ?_|refine Wb.h fun K hK=>?_|(refine hK _ ?_;clear hK K)|(refine wF ?_ ?_;assumption)|((fail_if_success refine Wz.h ?_);simp (disch:=omega) only [↓LD,LA,a0A,seval,LEv,LBr]))
      exact RetS.still (ds:=[.ag [.f (fBr o)],D.bool false,D.int e]) (by kernel_rfl) (by kernel_rfl) (.tps (.cons (.ags (.cons .f .nil)) (.cons .f (.cons .f .nil)))) hq
theorem h0K:∀ {l b:List Ev},a0Q l b=l.length↔l <+: b
 | [],b=>by cases b<;>simp [a0Q]
 | x :: l,[]=>by simp [a0Q]
 | x :: l,y :: b=>by
  rw [a0Q,List.length_cons,List.cons_prefix_cons]
  by_cases e:x=y
  ·rw [if_pos (f0S e)]
   have:=h0K (l:=l) (b:=b)
   constructor
   ·intro h;exact ⟨e,this.1 (by omega)⟩
   ·rintro ⟨_,h⟩;rw [this.2 h]
  ·rw [if_neg (by rw [f0R e];simp)]
   constructor
   ·intro h;omega
   ·rintro ⟨h,_⟩;exact absurd h e
theorem m0p:∀ {l b:List Ev},a0Q l b<l.length→a0Q l b<b.length→gt l (a0Q l b)≠gt b (a0Q l b)
 | [],b,h,_=>by simp at h
 | x :: l,[],_,h=>by simp at h
 | x :: l,y :: b,h1,h2=>by
  rw [a0Q] at h1 h2 ⊢
  by_cases e:x=y
  ·rw [if_pos (f0S e)] at h1 h2 ⊢
   rw [List.length_cons] at h1 h2
   have:=m0p (l:=l) (b:=b) (by omega) (by omega)
   simpa [gt] using this
  ·rw [if_neg (by rw [f0R e];simp)]
   simpa [gt] using e
theorem Uni.partsF {U:List Ev→Prop}(hu:Uni U){x b:List Ev}(hx:U x)(hb:U b){k:Int}:h0N x b k=false:=by
 refine Bool.eq_false_iff.2 fun h=>?_
 unfold h0N at h
 rw [Bool.and_eq_true,Bool.and_eq_true,decide_eq_true_eq,decide_eq_true_eq,decide_eq_true_eq] at h
 obtain ⟨⟨_,h1⟩,h2⟩:=h
 have hne:=m0p (l:=x) (b:=b)
 generalize a0Q x b=n at *
 have hp:U (x.take (n+1)):=hu.down hx (List.take_prefix _ x) (j0S (by omega) (by omega))
 have hq:U (b.take (n+1)):=hu.down hb (List.take_prefix _ b) (j0S (by omega) (by omega))
 have hv:a0i (x.take (n+1))=a0i (b.take (n+1)):=by rw [g0q (by omega) (by omega),g0q (by omega) (by omega)];exact h2
 have hl:(x.take (n+1)).length=(b.take (n+1)).length:=by rw [List.length_take,List.length_take];omega
 have he:x.take (n+1)=b.take (n+1):=by
  rcases hu.comp hp hq hv with h|h
  ·exact h.eq_of_length hl
  ·exact (h.eq_of_length hl.symm).symm
 refine hne (by omega) (by omega) ?_
 have:=congrArg (gt · n) he
 rw [a0v (by rw [List.length_take];omega),a0v (by rw [List.length_take];omega),List.getElem_take,List.getElem_take] at this
 rw [a0v (by omega),a0v (by omega)]
 exact this
theorem h1e {α:Type}{p q:α→Bool}{l:List α}(h:∀ x∈l,p x=q x):l.any p=l.any q:=by
 induction l with
 | nil=>rfl
 | cons x l ih=>rw [List.any_cons,List.any_cons,h x (by simp),ih fun y hy=>h y (by simp [hy])]
theorem w0B {U:List Ev→Prop}(hu:Uni U){t:Br}(ht:TrU U t){x:List Ev}(hx:U x)(h8:t.length<8){k:Int}:addQ t k x=(addU t x,!t.any (begB x),0):=by
 have hfo:=(hu.ok hx).1.fold
 unfold addQ
 rw [if_neg (fun h=>h hfo),if_neg (by
  rw [Bool.not_eq_true,List.any_eq_false]
  intro b hb
  rw [hu.partsF hx (ht.mem b hb)];simp)]
 have he:(t.any fun b=>decide ((a0Q x b:Int)=x.length))=t.any (begB x):=h1e fun b _=>by
  rw [Bool.eq_iff_iff,decide_eq_true_eq,begB_iff,←h0K];omega
 rw [he]
 by_cases hk:t.any (begB x)=true
 ·rw [if_pos hk,addU,if_pos hk,hk];rfl
 ·rw [if_neg hk,addU,if_neg hk]
  have hw:k0Q t x=(insU x (t.filter fun b=>!begB b x),0):=by
   unfold k0Q
   rw [if_neg (by
    rw [Bool.not_eq_true,List.any_eq_false]
    intro b hb
    simpa using (hu.tip ht hx hk b hb).2),if_neg (by have:=List.length_filter_le (fun b=>!begB b x) t;omega)]
  rw [hw,Bool.not_eq_true _ |>.mp hk]
  rfl
theorem d1Z {U:List Ev→Prop}(hu:Uni U){t:Br}(ht:TrU U t){hd evs:List Ev}(he:evs≠[])(hx:U (hd++evs))(h8:t.length<8) :
  (hd=[]∨Dn t hd)∧addP t (ofL hd) evs=(addU t (hd++evs),!t.any (begB (hd++evs)),0)∨(¬ (hd=[]∨Dn t hd))∧addP t (ofL hd) evs=([],false,4):=by
 have hz:¬ (evs.length=0∨c0x (ofL hd)=false):=by
  rintro (h|h)
  ·exact he (List.eq_nil_of_length_eq_zero h)
  ·rw [b1t ((hu.ok hx).1.pfx (List.prefix_append hd evs))] at h;cases h
 unfold addP
 rw [if_neg hz]
 by_cases hn:hd=[]
 ·subst hn
  refine .inl ⟨.inl rfl,?_⟩
  have:d0u t (ofL [])=some []:=by unfold d0u ofL;rw [if_pos rfl];rfl
  rw [this]
  exact w0B hu ht hx h8
 ·have hh:U hd:=hu.down hx (List.prefix_append hd evs) hn
  rcases r0v hu ht.mem hh with ⟨h1,h2⟩|⟨h1,h2⟩
  ·refine .inl ⟨.inr h2,?_⟩
   rw [h1]
   exact w0B hu ht hx h8
  ·refine .inr ⟨fun h=>h.elim hn h2,?_⟩
   rw [h1]
theorem g1w {U:List Ev→Prop}(hu:Uni U){t:Br}(ht:TrU U t){hd evs:List Ev}(he:evs≠[])(hx:U (hd++evs)):∀ h,d0u t (ofL hd)=some h→FitL (h++evs)∧((a0N s0 (h++evs)).1=0→BrOk (h++evs)):=by
 intro h hf
 have e:h=hd:=by
  by_cases hn:hd=[]
  ·subst hn
   have:d0u t (ofL [])=some []:=by unfold d0u ofL;rw [if_pos rfl];rfl
   rw [this] at hf
   exact (Option.some.inj hf).symm
  ·have hh:U hd:=hu.down hx (List.prefix_append hd evs) hn
   rcases r0v hu ht.mem hh with ⟨h1,_⟩|⟨h1,_⟩
   ·rw [h1] at hf;exact (Option.some.inj hf).symm
   ·rw [h1] at hf;cases hf
 subst e
 exact ⟨(hu.ok hx).1.fitL,fun _=>(hu.ok hx).1⟩
abbrev Bp:=List Ev × List Ev
def cutN (cuts:List Int)(i n:Nat):Nat:=if i<cuts.length then (1+pick (gt cuts i) (min 6 n:Nat)).toNat else n
theorem a1z {cuts:List Int}{i n:Nat}(hn:0<n):1≤cutN cuts i n∧cutN cuts i n≤n:=by
 unfold cutN
 split
 ·have:=b0Y (x:=gt cuts i) (n:=((min 6 n:Nat):Int)) (by omega)
  omega
 ·omega
def batA (l:List Ev)(cuts:List Int):Nat→Nat→Nat→List Bp
 | 0,_,_=>[]
 | f+1,i,at'=>if at'<l.length then (l.take at',(l.drop at').take (cutN cuts i (l.length-at'))) :: batA l cuts f (i+1) (at'+cutN cuts i (l.length-at')) else []
def batL (l:List Ev)(cuts:List Int):List Bp:=batA l cuts l.length 0 0
theorem g1A {l:List Ev}{cuts:List Int}{f i a:Nat}(h:a<l.length)(hf:l.length≤a+f):batA l cuts f i a=(l.take a,(l.drop a).take (cutN cuts i (l.length-a))) :: batA l cuts (f-1) (i+1) (a+cutN cuts i (l.length-a)):=by
 cases f with
 | zero=>omega
 | succ f=>rw [batA,if_pos h];rfl
theorem e1I {l:List Ev}{cuts:List Int}{f i a:Nat}(h:¬ a<l.length):batA l cuts f i a=[]:=by
 cases f with
 | zero=>rfl
 | succ f=>rw [batA,if_neg h]
inductive Chain (l:List Ev):Nat→List Bp→Prop
 | nil:Chain l l.length []
 | cons {a n:Nat} {bs:List Bp}:0<n→a+n≤l.length→Chain l (a+n) bs→Chain l a ((l.take a,(l.drop a).take n) :: bs)
theorem n0P {l:List Ev}{cuts:List Int}:∀ {f i a:Nat},a≤l.length→l.length≤a+f→Chain l a (batA l cuts f i a)
 | 0,i,a,h1,h2=>by (obtain rfl:a=l.length:=by omega);exact .nil
 | f+1,i,a,h1,h2=>by
  rw [batA]
  split
  ·have:=a1z (cuts:=cuts) (i:=i) (n:=l.length-a) (by omega)
   exact .cons (by omega) (by omega) (n0P (by omega) (by omega))
  ·obtain rfl:a=l.length:=by omega
   exact .nil
theorem x0q (l:List Ev)(cuts:List Int):Chain l 0 (batL l cuts):=n0P (Nat.zero_le _) (by omega)
theorem j0R {l:List Ev}{a n:Nat}:l.take a++(l.drop a).take n=l.take (a+n):=List.take_add.symm
theorem u0o {l:List Ev}{cuts:List Int}:∀ {f i a:Nat},(batA l cuts f i a).length≤f
 | 0,_,_=>by simp [batA]
 | f+1,i,a=>by
  rw [batA]
  split
  ·have:=u0o (l:=l) (cuts:=cuts) (f:=f) (i:=i+1) (a:=a+cutN cuts i (l.length-a))
   rw [List.length_cons];omega
  ·simp
theorem TrU.k {L:Br}(hu:Uni (Bg L)){t:Br}(ht:TrU (Bg L) t)(h8:L.length≤8):TrK t :=
 ⟨Nat.le_trans (c1s ht.nd ht.anti fun b hb=>(ht.mem b hb).2) h8,fun b hb=>hu.ok (ht.mem b hb)⟩
theorem TrU.few {L:Br}{t:Br}(ht:TrU (Bg L) t):t.length≤L.length:=c1s ht.nd ht.anti fun b hb=>(ht.mem b hb).2
theorem Con.vw {P:Program}{f:FuncId}{args:List D}{Q Q':D→List Row→Prop}(h:Con P f args [] Q)(hq:∀ d H',Q d H'→∃ d0,Vw H' d d0∧Q' d0 []):Con P f args [] Q' :=
 ⟨h.1,fun w φ X vs hH ha=>(h.2 w φ X vs hH ha).mono fun _ _ ⟨v,d,H1,h1,h2,φ',ho,hr,hv⟩=>by
  obtain ⟨d0,hw,hq'⟩:=hq d H1 h2
  have hA:∀ b,Av X φ' [] b→X b:=by
   rintro b (hb|⟨r,x,hx,_⟩)
   ·exact hb
   ·simp at hx
  exact ⟨v,d0,[],h1,hq',φ',⟨Nat.le_refl _,ho.same,ho.keep,fun b hb=>by obtain ⟨r,x,hx,_⟩:=hb;simp at hx⟩,⟨fun r x hx=>by simp at hx,fun r s x y hx=>by simp at hx,fun r x hx=>by simp at hx,hr.old,fun p hp=>(hr.gl p hp).thin fun b hb=>.inl (hA b hb)⟩,hw.ok hr hA v hv⟩⟩
theorem RF.trim {w:World}{A:Nat→Prop}{a b x:List F}{n:Nat}{u:Value}(h:RF w A (.s x n) u)(hx:x=a++b):RF w A (.s a n) u:=by
 cases h with
 | s cs h1 h2 h3 h4 =>
  subst hx
  refine .s (cs.take a.length) h1 (by rw [List.length_take,h2,List.length_append];omega) (fun i u hu=>?_) (fun i y u hy hu=>?_)
  ·rw [List.getElem?_take] at hu
   split at hu
   ·exact h3 i u hu
   ·cases hu
  ·rw [List.getElem?_take] at hu
   split at hu
   ·exact h4 i y u (by rw [List.getElem?_append_left (by assumption)];exact hy) hu
   ·cases hu
 | s0 =>
  have:a=[]:=(List.append_eq_nil_iff.1 hx.symm).1
  subst this
  exact .s0
theorem Con.trim {P:Program}{f:FuncId}{args:List D}{H H0:List Row}{A:List F}{n:Nat}(h:Con P f args H fun r h'=>∃ xs,r = .f (.s (A++xs) n)∧h'=H0):Con P f args H fun r h'=>r = .f (.s A n)∧h'=H0 :=
 ⟨h.1,fun w φ X vs hH ha=>(h.2 w φ X vs hH ha).mono fun _ _ ⟨v,d,H1,h1,⟨xs,h2,h3⟩,φ',ho,hr,hv⟩=>by
  subst h2
  refine ⟨v,_,H1,h1,⟨rfl,h3⟩,φ',ho,hr,?_⟩
  cases hv with|f hv=>exact .f (hv.trim rfl)⟩
theorem c1C (t:Br)(ht:TrK t):Con Tryz.prog 31 [.ag [.f (fBr t)]] [] fun r H'=>r = .f (fEv (allL (sigM t)))∧H'=[] :=
 (v0Y t ht (u0y ht) (v0y ht)).vw fun d H' ⟨h1,h2⟩=>by
  refine ⟨_,?_,rfl,rfl⟩
  subst h1 h2
  unfold alR alH
  by_cases hz:(allL (sigM t)).length=0
  ·rw [if_pos hz,if_pos hz,List.eq_nil_of_length_eq_zero hz];exact .nil
  ·rw [if_neg hz,if_neg hz];exact x0m rfl rfl rfl
theorem o0m (t:Br)(ht:TrK t):Con Tryz.prog 27 [.ag [.f (fBr t)]] [] fun r H'=>r = .f (fEv (misL t))∧H'=[]:=(p0i t ht (u0y ht) (v0y ht)).trim
instance {t:Br}{H:List Row}{K:D→List Row→Prop}[ht:Kn (TrK t)]:Wa (a0T Tryz.prog (.fn 31 []) [.ag [.f (fBr t)]] H K) (K (.f (fEv (allL (sigM t)))) H):=⟨fun h=>a0C (c1C t ht.h) rfl rfl rfl h⟩
instance {t:Br}{H:List Row}{K:D→List Row→Prop}[ht:Kn (TrK t)]:Wa (a0T Tryz.prog (.fn 27 []) [.ag [.f (fBr t)]] H K) (K (.f (fEv (misL t))) H):=⟨fun h=>a0C (o0m t ht.h) rfl rfl rfl h⟩
def extS:Ext:=fun f=>match Nat.beq f 69 with
 | true=>some (o0F 113 9 sortS)
 | false=>none
theorem g1l:∀ f g,extS f=some g→e0o Tryz.prog f g:=by
 intro f g h
 unfold extS at h
 split at h
 ·rename_i hf
  obtain rfl:=Nat.eq_of_beq_eq_true hf
  cases h
  exact l0e
 ·cases h
theorem d1y:v0o (runF Tryz.prog extS 60 29 [] [])=true:=by kernel_rfl
theorem y0d:Con Tryz.prog 29 [] [] fun r H'=>r=D.bool true∧H'=[] :=
 (Con.run good g1l (b1s (by kernel_rfl)) (q0v (by rw [←g1t];exact d1y))).mono fun _ _ h=>h
instance {H:List Row}{K:D→List Row→Prop}:Wa (a0T Tryz.prog (.fn 29 []) [] H K) (K (.f (.v (.bool true))) H):=⟨fun h=>a0C y0d rfl rfl rfl h⟩
def i1X (P:Program)(n0:Nat){α:Type}(st:α→St)(p:α→Prop)(m:α→Nat)(x:α)(s:St):Prop:=∃ y,View P n0 s (st y)∧p y∧m y<m x
instance {P:Program}{n0:Nat}{α:Type}{st:α→St}{p:α→Prop}{m:α→Nat}{x:α}{s:St}:Wz (i1X P n0 st p m x s):=⟨id⟩
def h0h:SCode :=
  (jq ([.a 4 (.mv kN)]) (jq ([.a 5 (.mv kN)]) (jq ([jk 6 0]) (.seq (jq ([jk 7 0]) (.block 0 (.loop (.seq (jq ([jm 9 6,jm 10 0,je 11 10,jB 12 .lss 9
 11]) (jc 12 .skip (.exit 0))) (.seq (.block 1 (jq ([jm 15 0,je 16 15,jm 17 6,jB 18 .sub 16 17,jm 8 18]) (.seq (jq ([jm 19 7,jm 20 1,je 21 20,jB
 22 .lss 19 21]) (jc 22 (.ops (ap [jm 23 1,jm 24 7,jx 25 1 23 24,jl 26 25,jm 27 8,.a 28 (.mm false (kI 6) (.t 27)),.a 29 (.call (kC 13) [(.t 26),
 (.t 28)])] [.a 30 (.bin .add (kI 1) (.t 29)),jm 8 30])) .skip)) (.seq (.drw [jm 31 5,jm 32 0,jm 33 6,.a 34 (.sub 9 73 (.t 32) none (some (.t 33))
 none),.a 35 (.call (kC 39) [(.t 34)]),jm 36 0,jm 37 6,jm 38 6,jm 39 8,jB 40 .add 38 39,.a 41 (.sub 9 73 (.t 36) (some (.t 37)) (some (.t 40))
 none),.a 42 (.bld [(.f (.v (.string ⟨#[]⟩))),(.f (.v (.string ⟨#[]⟩))),jN,jN] [(0,1,(.c (.f (.v (.string ⟨#[97]⟩))))),(1,1,(.c (.f (.v
 (.string ⟨#[106,111,98,45,49]⟩))))),(2,1,(.t 35)),(3,1,(.t 41))]),.a 43 (.bsl 38 4 1 [(.f (.v (.string ⟨#[]⟩))),(.f (.v (.string ⟨#[]⟩))),
 jN,jN] [(0,(.t 42))]),.a 44 (.app 38 4 80 (.t 31) (.t 43)),jm 5 44] [0,0,0,6,14,0,0,0,0,384,992,2046,4094,8191,16383]) (.ops [jm 45
 6,jm 46 8,jB 47 .add 45 46,jm 6 47]))))) (.ops [jm 13 7,jb 14 .add 13 1,jm 7 14])))))) (jq ([jm 48 5,jm 4 48]) .ret)))))
theorem o0O:Fn Tryz.prog 11 49 [.t 4] h0h:=.of Tryz.func11 (by kernel_rfl)
theorem z0e {H:List Row}{E:TypeId}{b:List Ev}{l h:Nat}(hh:h≤b.length):subS H 9 E (.f (fEv b)) l h=some (.f (fEv ((b.drop l).take (h-l)))):=by
 have k:=g0D (H:=H) (E:=E) (b:=b.drop l) (h:=h-l) (by rw [List.length_drop];omega)
 rw [fEv,p0l] at k ⊢
 rw [r0f Ev.cs_len]
 simpa using k
def Bp.cs (p:Bp):List F:=[.v (.string ⟨#[97]⟩),.v (.string ⟨#[106,111,98,45,49]⟩),fIm (ofL p.1),fEv p.2]
theorem Bp.cs_len (p:Bp):p.cs.length=4:=rfl
def fBp (bs:List Bp):F:=.s (bs.flatMap Bp.cs) bs.length
theorem c1T {g:List Bp}:(g.flatMap Bp.cs).length=g.length*4:=b0E Bp.cs_len g
theorem h1a {bs:List Bp}{a b:List Ev}:bs.flatMap Bp.cs++[.v (.string ⟨#[97]⟩),.v (.string ⟨#[106,111,98,45,49]⟩),fIm (ofL a),fEv b]=(bs++[(a,b)]).flatMap Bp.cs:=by simp [Bp.cs]
theorem i1W {H:List Row}{r n:Nat}{xs:List F}{t:List Bp}(hr:H[r]?=some (.data 38 xs))(hx:xs=t.flatMap Bp.cs)(hn:n=t.length):Vw H (.sl r 0 n) (.f (fBp t)):=by
 subst hx;subst hn
 exact .sl hr (fun e=>by rw [List.eq_nil_of_length_eq_zero e];rfl)
set_option maxRecDepth 100000 in
theorem q0l (l:List Ev)(cuts:List Int)(hl:BrOk l):Con Tryz.prog 11 [.f (fEv l),.f (fI cuts)] [] fun r H'=>r = .f (fBp (batL l cuts))∧H'=[]:=by
 have hll:=hl.len
 refine Con.walk good o0O (by simp) ?_
 unfold h0h
 simp only [a0J]
 repeat' (with_reducible first|refine Wx.h ?_|refine Wb.h fun K hK=>?_|(refine hK _ ?_;clear hK K)|((fail_if_success refine Wz.h ?_);simp (disch:=omega) only [↓LD,LA,a0A,seval,LEv]))
 refine HS.view (View.void 38) ?_
 refine HS.view (View.slot 5 (.sl 0 0 0) (.no (by decide))) ?_
 refine HS.loopG [0,1,5,6,7] (fun x:Nat × Nat × List Bp=>⟨frm 49 [(0,.f (fEv l)),(1,.f (fI cuts)),(5,.sl 0 0 x.2.2.length),(6,D.int x.1),(7,D.int x.2.1)],[.data 38 (x.2.2.flatMap Bp.cs)],[]⟩) (fun x=>x.1≤l.length∧x.2.1≤x.1∧x.2.2.length≤x.1∧∃ f,l.length≤x.1+f∧batL l cuts=x.2.2++batA l cuts f x.2.1 x.1) (fun x=>l.length-x.1) (0,0,[]) (by kernel_rfl) ⟨Nat.zero_le _,Nat.le_refl _,Nat.le_refl _,l.length,by dsimp only;omega,rfl⟩ ?_
 rintro ⟨a,i,o⟩ ⟨ha,hi,ho,f,hf,hB⟩
 dsimp only at ha hi ho hf hB
 by_cases hal:a<l.length
 rotate_left
 ·rw [e1I hal,List.append_nil] at hB
  repeat' (with_reducible first|refine Wx.h ?_|refine Wb.h fun K hK=>?_|(refine hK _ ?_;clear hK K)|refine Wq.h ?_ ?_<;>intro h<;>try (exfalso;omega)|((fail_if_success refine Wz.h ?_);simp (disch:=omega) only [↓LD,LA,a0A,seval,LEv]))
  rw [hB]
  exact end1 rfl rfl (by kernel_rfl) (i1W rfl rfl rfl) ⟨rfl,rfl⟩
 rw [g1A hal hf] at hB
 have hcn:=a1z (cuts:=cuts) (i:=i) (n:=l.length-a) (by omega)
 have hok:=hl.take a
 haveI:Kn (IdL (l.take a)):=⟨hok.idL⟩
 have hs1:∀ H:List Row,subS H 9 73 (.f (fEv l)) 0 a=some (.f (fEv (l.take a))):=fun H=>g0D (by omega)
 have key:∀ c:Nat,cutN cuts i (l.length-a)=c→(∀ H:List Row,subS H 9 73 (.f (fEv l)) a (a+c)=some (.f (fEv ((l.drop a).take c)))):=fun c hc H=>by
  rw [z0e (by omega),Nat.add_sub_cancel_left]
 have hap:=h1a (bs:=o) (a:=l.take a) (b:=(l.drop a).take (cutN cuts i (l.length-a)))
 have hmn:((min 6 (l.length-a):Nat):Int)=min 6 ((l.length:Int)-a):=by omega
 by_cases hic:i<cuts.length
 ·have hp:=b0Y (x:=gt cuts i) (n:=((min 6 (l.length-a):Nat):Int)) (by omega)
  have hcu:cutN cuts i (l.length-a)=(1+pick (gt cuts i) ((min 6 (l.length-a):Nat):Int)).toNat:=if_pos hic
  rw [hmn] at hp hcu
  generalize cutN cuts i (l.length-a)=c at *
  have hs2:=key c rfl
  have e1:pick (gt cuts i) (min 6 ((l.length:Int)-a))=(c:Int)-1:=by omega
  have e2:(1:Int)+((c:Int)-1)=c:=by omega
  have e3:((a:Int)+c).toNat=a+c:=by omega
  clear hcu hp key
  repeat' (with_reducible first|refine Wx.h ?_|refine We.h fun K hK=>?_|(refine hK _ _ _ _ ?_;clear hK K;try clear hM M)|refine Wb.h fun K hK=>?_|(refine hK _ ?_;clear hK K)|(refine Wy.h ?_ ?_;kernel_rfl)|refine Wq.h ?_ ?_<;>intro h<;>try (exfalso;omega)|((fail_if_success refine Wz.h ?_);first|simp (disch:=omega) only [↓LD,LA,a0A,seval,LEv,LIm,a0K,c1T,hs1,hs2,e1,e2,e3,hap,Int.toNat_natCast]|(refine And.intro ?_ ?_;omega)|fail))
  all_goals exact Next.mk (a+c,i+1,o++[(l.take a,(l.drop a).take c)]) (by rw [show (o++[(l.take a,(l.drop a).take c)]).length=o.length+1 by simp];kernel_rfl) ⟨by dsimp only;omega,by dsimp only;omega,by dsimp only;rw [List.length_append,List.length_singleton];omega,f-1,by dsimp only;omega,by rw [hB,List.append_assoc];rfl⟩ (by dsimp only;omega)
 ·have hcu:cutN cuts i (l.length-a)=l.length-a:=if_neg hic
  generalize cutN cuts i (l.length-a)=c at *
  have hs2:=key c rfl
  have e1:(l.length:Int)-a=(c:Int):=by omega
  have e3:((a:Int)+c).toNat=a+c:=by omega
  clear hcu key
  repeat' (with_reducible first|refine Wx.h ?_|refine We.h fun K hK=>?_|(refine hK _ _ _ _ ?_;clear hK K;try clear hM M)|refine Wb.h fun K hK=>?_|(refine hK _ ?_;clear hK K)|(refine Wy.h ?_ ?_;kernel_rfl)|refine Wq.h ?_ ?_<;>intro h<;>try (exfalso;omega)|((fail_if_success refine Wz.h ?_);first|simp (disch:=omega) only [↓LD,LA,a0A,seval,LEv,LIm,a0K,c1T,hs1,hs2,e1,e3,hap,Int.toNat_natCast]|(refine And.intro ?_ ?_;omega)|fail))
  all_goals exact Next.mk (a+c,i+1,o++[(l.take a,(l.drop a).take c)]) (by rw [show (o++[(l.take a,(l.drop a).take c)]).length=o.length+1 by simp];kernel_rfl) ⟨by dsimp only;omega,by dsimp only;omega,by dsimp only;rw [List.length_append,List.length_singleton];omega,f-1,by dsimp only;omega,by rw [hB,List.append_assoc];rfl⟩ (by dsimp only;omega)
structure Prt (l:List Ev)(bs:List Bp)(i a:Nat):Prop where
 le:a≤l.length
 ch:Chain l a (bs.drop i)
 old:∀ k,k<i→∃ b n,gt bs k=(l.take b,(l.drop b).take n)∧0<n∧b+n≤a
theorem Prt.start (l:List Ev)(cuts:List Int):Prt l (batL l cuts) 0 0:=⟨Nat.zero_le _,x0q l cuts,fun k h=>by omega⟩
theorem Prt.step {l:List Ev}{bs:List Bp}{i a:Nat}(h:Prt l bs i a)(hi:i<bs.length):∃ n,0<n∧a+n≤l.length∧gt bs i=(l.take a,(l.drop a).take n)∧Prt l bs (i+1) (a+n):=by
 have hc:=h.ch
 rw [a0I hi] at hc
 generalize hg:gt bs i=g at hc
 cases hc with
 | @cons _ n _ h1 h2 h3 =>
  refine ⟨n,h1,h2,rfl,h2,h3,fun k hk=>?_⟩
  by_cases e:k=i
  ·subst e;exact ⟨a,n,hg,h1,Nat.le_refl _⟩
  ·obtain ⟨b,m,h4,h5,h6⟩:=h.old k (by omega)
   exact ⟨b,m,h4,h5,by omega⟩
structure AddIn (t:Br)(hd evs:List Ev):Prop where
 tk:TrK t
 pk:(ofL hd).length≤1000000
 fit:FitL evs
 hb:∀ h,d0u t (ofL hd)=some h→FitL (h++evs)∧((a0N s0 (h++evs)).1=0→BrOk (h++evs))
theorem AddIn.of {L:Br}(hu:Uni (Bg L))(h8:L.length≤8){t:Br}(ht:TrU (Bg L) t){hd evs:List Ev}(he:evs≠[])(hx:Bg L (hd++evs)):AddIn t hd evs :=
 ⟨ht.k hu h8,((hu.ok hx).1.pfx (List.prefix_append hd evs)).ofK,by
  have:=(hu.ok hx).1.fitL
  exact ⟨by have:=this.1;rw [List.length_append] at this;omega,fun e h=>this.2 e (List.mem_append_right _ h)⟩,g1w hu ht he hx⟩
instance {t:Br}{d0 d1:F}{hd evs:List Ev}{H:List Row}{K:Bool→D→List Row→Prop}[h:Kn (AddIn t hd evs)]:Wa (a0m Tryz.prog (.fn 12 []) [.ag [.f (fBr t)],.ag [.f d0,.f d1,.f (fIm (ofL hd)),.f (fEv evs)]] H K) (K true (.tp [.ag [.f (fBr (addP t (ofL hd) evs).1)],.f (.v (.bool (addP t (ofL hd) evs).2.1)),.f (.v (.int .i64 (addP t (ofL hd) evs).2.2))]) H):=⟨fun k=>a0O (d1v t d0 d1 (ofL hd) evs h.h.tk h.h.pk h.h.fit h.h.hb) rfl rfl rfl k⟩
theorem p0w {α:Type}[DecidableEq α]:∀ {a b:List α},a.Nodup→(∀ x∈a,x∈b)→a.length≤b.length
 | [],_,_,_=>Nat.zero_le _
 | x :: a,b,h,hs=>by
  rw [List.nodup_cons] at h
  have hx:=hs x (by simp)
  have ih:=p0w (a:=a) (b:=b.erase x) h.2 fun y hy=>by
   rw [List.mem_erase_of_ne (fun e:y=x=>h.1 (by rw [←e];exact hy))]
   exact hs y (by simp [hy])
  rw [List.length_erase_of_mem hx] at ih
  have:=List.length_pos_of_mem hx
  rw [List.length_cons];omega
theorem k0b (t:Br):(allL (sigM t)).length=((sigM t).map (·.name)).length:=by
 unfold allL;rw [List.length_map,(c0l _).length_eq]
theorem z0o {t u:Br}(h:∀ b∈t,Dn u b):(allL (sigM t)).length≤(allL (sigM u)).length:=by
 rw [k0b,k0b]
 refine p0w (o0M t).nd fun k hk=>?_
 obtain ⟨e,he,rfl⟩:=List.mem_map.1 hk
 obtain ⟨h7,b,hb,heb⟩:=(o0M t).mem e he
 obtain ⟨c,hc,hp⟩:=h b hb
 exact g1p hc (hp.subset heb) h7
theorem e1S {b:List Ev}(hb:BrOk b):misL [b]=[]:=by
 unfold misL
 rw [List.filter_eq_nil_iff]
 intro e he
 have hk:e.name∈(allL (sigM [b])).map (·.name):=List.mem_map.2 ⟨e,he,rfl⟩
 rw [y0G,(c0l _).mem_iff] at hk
 obtain ⟨x,hx,hxe⟩:=List.mem_map.1 hk
 obtain ⟨h7,c,hc,hxc⟩:=(o0M [b]).mem x hx
 obtain rfl:=List.mem_singleton.1 hc
 have h:c0s (a0N s0 (curL [c])).2.sgs e.name=true:=by
  rw [show curL [c]=c from rfl,hb.sgs,←hxe]
  exact g1G hxc h7
 unfold hadB
 rw [h];simp
theorem f1y (t:Br):(misL t).length≤(allL (sigM t)).length:=List.length_filter_le _ _
theorem v0q {g:List Bp}:slcS (.f (fBp g))=some g.length:=id rfl
theorem v0A {g:List Bp}{sz:Nat}{k:IntKind}{i:Int}{K:D→Prop}:idxS sz (.f (fBp g)) (.f (.v (.int k i))) K=((0≤i∧i<g.length)∧K (.rf ((g.flatMap Bp.cs).drop (i.toNat*sz)))):=id rfl
theorem d1n {H:List Row}{g:List Bp}{k:Nat}(hk:k<g.length):loadA H 4 (.rf ((g.flatMap Bp.cs).drop (k*4)))=some (.ag ((Bp.cs (gt g k)).map .f)):=b0T Bp.cs_len hk
theorem LBp:type_of% @v0q∧type_of% @v0A:=⟨@v0q,@v0A⟩
instance {l:List Ev}{cuts:List Int}{H:List Row}{K:D→List Row→Prop}[hl:Kn (BrOk l)]:Wa (a0T Tryz.prog (.fn 11 []) [.f (fEv l),.f (fI cuts)] H K) (K (.f (fBp (batL l cuts))) H):=⟨fun k=>a0C (q0l l cuts hl.h) rfl rfl rfl k⟩
theorem i1a {t:Br}{p:List Ev}(hp:p∈t):Dn t p:=⟨p,hp,List.prefix_refl p⟩
def d0F:SCode :=
  (jq ([.a 2 (.box 48 (.t 0)),.a 4 (.mv kF)]) (jq ([.a 5 (.alloc 30 [jN])]) (jq ((ap [jL 16 3 2,.a 17 (.call (kC 23) [(.t 16)])] [jm 6 17])) (.seq (jq
 ((ap [.a 18 (.call (kC 29) [])] [.a 19 (.unot (.t 18))])) (jc 19 (jq ([.a 4 (.mv kF)]) .ret) .skip)) (jq ([jk 7 0]) (.seq (jq ([jk 8 0]) (.block 0
 (.loop (.seq (jq ([jm 20 8,jm 21 6,je 22 21,jB 23 .lss 20 22]) (jc 23 .skip (.exit 0))) (.seq (.block 1 (jq ((ap [jm 26 6,jm 27 8,jx 28 1 26 27,
 jl 29 28,jm 30 1,.a 31 (.call (kC 11) [(.t 29),(.t 30)])] [jm 9 31])) (jq ([jk 10 0]) (.block 2 (.loop (.seq (jq ([jm 32 10,jm 33 9,je 34 33,jB
 35 .lss 32 34]) (jc 35 .skip (.exit 2))) (.seq (.block 3 (.seq (.drw [jL 39 1 5,jm 40 9,jm 41 10,jx 42 4 40 41,jL 43 4 42,.a 44 (.call (kC 12)
 [(.t 39),(.t 43)]),jm 38 44,jE 45 0 38,jE 46 1 38,jE 47 2 38,.a 11 (.alloc 30 [jN]),.n (.store 1 (.t 11) (.t 45)),jm 12 46,jm 13 47] [0,0,0,
 6,14,31,63,127,127,127,0,1279,3583,8191]) (.seq (jq ([jm 48 13,jb 49 .neq 48 0]) (jc 49 (jq ((ap [jm 50 13,jb 51 .eql 50 1] [jm 4 51]))
 .ret) .skip)) (jq ((ap [jL 52 1 11,.a 53 (.call (kC 31) [(.t 52)])] [jm 14 53])) (jq ((ap [jL 54 1 11,.a 55 (.call (kC 27) [(.t 54)])] [jm 15 55]))
 (.seq (jq ((ap [jm 56 14,je 57 56,jm 58 7,jB 59 .lss 57 58] (ap [jm 60 59,gO 61 0 11 60 false] (ap [gL 62 61 60 false,jG 63 (.slen (.t 62)) 60
 false,jG 64 (.bin .eql (.t 63) (kI 1)) 60 false] (ap [gM 65 64 60 false,gM 66 15 65 true] (ap [jG 67 (.slen (.t 66)) 65 true,jG 68 (.bin .neq (.t
 67) (kI 0)) 65 true] (ap [jG 69 (.pick (.t 65) (.t 68) kF) 60 false] (ap [.a 70 (.pick (.t 60) kT (.t 69)),jm 71 70,gM 72 15 71 false] (ap [jG 73
 (.slen (.t 72)) 71 false,gM 74 14 71 false,jG 75 (.slen (.t 74)) 71 false,jG 76 (.bin .gtr (.t 73) (.t 75)) 71 false] [.a 77 (.pick (.t 71) kT (.t
 76))]))))))))) (jc 77 (jq ([.a 4 (.mv kF)]) .ret) .skip)) (jq ([jm 78 14,je 79 78,jm 7 79]) (.ops [jL 80 1 11,.n (.store 1 (.t 5) (.t 80))]))))))))
 (.ops [jm 36 10,jb 37 .add 36 1,jm 10 37])))))))) (.ops [jm 24 8,jb 25 .add 24 1,jm 8 25])))))) (jq ([.a 4 (.mv kT)]) .ret)))))))
theorem f0V:Fn Tryz.prog 8 81 [.t 4] d0F:=.of Tryz.func8 (by kernel_rfl)
end Go.Proofs.YthjgmldnegaaiaaGreatDoor.Mir
