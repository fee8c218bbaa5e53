/- Lemmas for the proof. No condition. -/
import Derived.Test.YthjgmldnegaaiaaGreatDoorQf10
set_option linter.unusedVariables false
set_option linter.unusedSimpArgs false
namespace Go.Proofs.YthjgmldnegaaiaaGreatDoor.Mir
open Go Go.RowKit
set_option maxHeartbeats 2000000
theorem c1j {done:List Bool}{x:Int}{l:List Int}:metB done (x :: l)=(inB done x&&metB done l):=rfl
theorem c0y (d:Nd)(done:List Bool)(hp:∀ x∈d.ns,0≤x)(hl:d.ns.length<1000000):Con Tryz.prog 163 [ndD d,.f (fB done)] [] fun r H'=>r=D.bool (metB done d.ns)∧H'=[]:=by
 refine Con.walk good x0X (by simp) ?_
 unfold q0z
 simp only [a0I,List.length_cons,List.length_nil,Nat.reduceAdd]
 repeat' (with_reducible first|refine Wx.h ?_|refine Wb.h fun K hK=>?_|(refine hK _ ?_;clear hK K)|((fail_if_success refine Wz.h ?_);simp (disch:=omega) only [↓LD,LA,a0A,seval,ndD]))
 refine HS.loopG [1,2,5] (fun k:Nat=>⟨frm 32 [(1,.f (fB done)),(2,.pt 0 0),(5,D.int k)],[.box 123 [.f (fI d.ns),D.int d.tr,D.int d.le]],[]⟩)
  (fun k=>k≤d.ns.length∧metB done d.ns=metB done (d.ns.drop k)) (fun k=>d.ns.length-k) 0 (by kernel_rfl) ⟨Nat.zero_le _,rfl⟩ ?_
 rintro k ⟨hk,hm⟩
 by_cases hkl:k<d.ns.length
 ·have hx:=hp _ (a0K hkl)
  rw [a0G hkl,c1j] at hm
  repeat' (with_reducible first|refine Wx.h ?_|refine Wb.h fun K hK=>?_|(refine hK _ ?_;clear hK K)|refine Wq.h ?_ ?_<;>intro h<;>try (exfalso;omega)|((fail_if_success refine Wz.h ?_);first|simp (disch:=omega) only [↓LD,LA,a0A,seval,fI,fB]|(refine And.intro ?_ ?_;omega)|fail))
  ·exact end1 rfl rfl (by kernel_rfl) .f ⟨by rw [hm,show inB done (gt d.ns k)=false by simp [inB];omega];rfl,rfl⟩
  ·exact end1 rfl rfl (by kernel_rfl) .f ⟨by rw [hm,show inB done (gt d.ns k)=false by simp_all [inB]];try rfl,rfl⟩
  ·exact Next.mk (k+1) (by kernel_rfl) ⟨by omega,by rw [hm,show inB done (gt d.ns k)=true by simp_all [inB]];try rfl⟩ (by omega)
 ·rw [List.drop_of_length_le (by omega)] at hm
  repeat' (with_reducible first|refine Wx.h ?_|refine Wb.h fun K hK=>?_|(refine hK _ ?_;clear hK K)|refine Wq.h ?_ ?_<;>intro h<;>try (exfalso;omega)|((fail_if_success refine Wz.h ?_);simp (disch:=omega) only [↓LD,LA,a0A,seval,fI,fB]))
  exact end1 rfl rfl (by kernel_rfl) .f ⟨by rw [hm];try rfl,rfl⟩
def outT (done:List Bool)(n:Nat):List Int→D × List Row
 | []=>(.f (.v (.slice none 0 0)),[.data 4 (done.map bF)])
 | x :: l=>(.sl 1 0 n,[.data 4 (done.map bF),.data 3 ((x :: l).map iF)])
theorem e1y {done:List Bool}{ds:List Nd}(hd:done.length=ds.length)(h:0≤nxt done 0 ds):opn (done.set (nxt done 0 ds).toNat true)+1=opn done:=by
 have:=d1B done 0 ds h
 exact e1P (by omega) this.2.2
theorem r0K {ds:List Nd}{n:Nat}{done:List Bool}{out:List Int}(h:nxt done 0 ds<0):ordF ds n done out=out:=by
 cases n with
 | zero=>rfl
 | succ n=>rw [ordF,if_pos h]
set_option maxRecDepth 100000 in
theorem s0f (ds:List Nd)(hl:Fit ds)(hp:Pos ds):Con Tryz.prog 146 [.f (fG ds)] [] fun r H'=>r = .f (fI (f0M ds))∧H'=[]:=by
 obtain ⟨hl,hn⟩:=hl
 refine Con.walk good p0D (by simp) ?_
 unfold j0h
 simp only [a0I,List.length_cons,List.length_nil,Nat.reduceAdd]
 repeat' (with_reducible first|refine Wx.h ?_|refine Wb.h fun K hK=>?_|(refine hK _ ?_;clear hK K)|((fail_if_success refine Wz.h ?_);first|simp (disch:=omega) only [↓LD,LA,a0A,seval,fG]|(refine And.intro ?_ ?_;omega)|fail))
 rw [h0e]
 refine HS.loopG [0,3,4,5] (fun x:Bool × Nat × List Bool × List Int=>⟨frm 42 [(0,.f (fG ds)),(3,.sl 0 0 ds.length),(4,(outT x.2.2.1 x.2.1 x.2.2.2).1),(5,D.bool x.1)],(outT x.2.2.1 x.2.1 x.2.2.2).2,[]⟩)
  (fun x=>x.2.2.1.length=ds.length∧x.2.2.2.length=x.2.1∧x.2.1+opn x.2.2.1=ds.length∧f0M ds=ordF ds (opn x.2.2.1) x.2.2.1 x.2.2.2∧(x.1=false→f0M ds=x.2.2.2)) (fun x=>if x.1 then opn x.2.2.1+1 else 0) (true,0,List.replicate ds.length false,[]) (by kernel_rfl)
  ⟨List.length_replicate,rfl,by simp [x0u],by dsimp only;rw [x0u];try rfl,fun h=>by cases h⟩ ?_
 rintro ⟨again,n,done,out⟩ ⟨hd,ho,hop,hr,hs⟩
 dsimp only at hd ho hop hr hs
 cases again with
 | false =>
  have hs:=hs rfl
  rcases out with _|⟨a,l⟩
  ·repeat' (with_reducible first|refine Wx.h ?_|refine Wb.h fun K hK=>?_|(refine hK _ ?_;clear hK K)|((fail_if_success refine Wz.h ?_);simp (disch:=omega) only [↓LD,LA,a0A,seval,outT]))
   exact end1 rfl rfl (by kernel_rfl) .nil ⟨by rw [hs];try rfl,rfl⟩
  ·repeat' (with_reducible first|refine Wx.h ?_|refine Wb.h fun K hK=>?_|(refine hK _ ?_;clear hK K)|((fail_if_success refine Wz.h ?_);simp (disch:=omega) only [↓LD,LA,a0A,seval,outT]))
   exact end1 rfl rfl (by kernel_rfl) (.sl rfl (fun e=>by simp at ho;omega)) ⟨by rw [hs,List.drop_zero,fI,ho];try rfl,rfl⟩
 | true =>
  have hnx:=e1y (ds:=ds) hd
  rcases out with _|⟨a,l⟩
  ·repeat' (with_reducible first|refine Wx.h ?_|refine Wb.h fun K hK=>?_|(refine hK _ ?_;clear hK K)|((fail_if_success refine Wz.h ?_);simp (disch:=omega) only [↓LD,LA,a0A,seval,fG,outT]))
   refine HS.loopG [0,3,4,5,6] (fun x:Nat × Bool × Nat × List Bool × List Int=>⟨frm 42 [(0,.f (fG ds)),(3,.sl 0 0 ds.length),(4,(outT x.2.2.2.1 x.2.2.1 x.2.2.2.2).1),(5,D.bool x.2.1),(6,D.int x.1)],(outT x.2.2.2.1 x.2.2.1 x.2.2.2.2).2,[]⟩)
    (fun x=>x.1≤ds.length∧(x.2.1=false→x.2.2.1=n∧x.2.2.2.1=done∧x.2.2.2.2=[]∧nxt done 0 ds=nxt done x.1 (ds.drop x.1))∧(x.2.1=true→0≤nxt done 0 ds∧x.2.2.1=n+1∧x.2.2.2.1=done.set (nxt done 0 ds).toNat true∧x.2.2.2.2=[]++[nxt done 0 ds])) (fun x=>ds.length-x.1) (0,false,n,done,[]) (by kernel_rfl)
    ⟨Nat.zero_le _,fun _=>⟨rfl,rfl,rfl,rfl⟩,fun h=>by cases h⟩ ?_
   rintro ⟨k,ag,m,dn,ot⟩ ⟨hk,hf,ht⟩
   dsimp only at hk hf ht
   cases ag with
   | true =>
    obtain ⟨h0,rfl,rfl,rfl⟩:=ht rfl
    have hnx:=hnx h0
    repeat' (with_reducible first|refine Wx.h ?_|refine Wb.h fun K hK=>?_|(refine hK _ ?_;clear hK K)|refine Wq.h ?_ ?_<;>intro h|((fail_if_success refine Wz.h ?_);simp (disch:=omega) only [↓LD,LA,a0A,seval,fG,outT]))
    all_goals
     refine Next.mk (true,n+1,done.set (nxt done 0 ds).toNat true,[]++[nxt done 0 ds]) (by kernel_rfl) ⟨by dsimp only;rw [List.length_set,hd],by simp [←ho],by dsimp only;omega,?_,fun h=>by cases h⟩ (by simp;omega)
     rw [hr,←hnx,ordF,if_neg (by omega)]
   | false =>
    obtain ⟨rfl,rfl,rfl,hnk⟩:=hf rfl
    by_cases hkl:k<ds.length
    ·rw [a0G hkl,nxt] at hnk
     repeat' (with_reducible first|refine Wx.h ?_|refine Wb.h fun K hK=>?_|(refine hK _ ?_;clear hK K)|refine Wq.h ?_ ?_<;>intro h<;>try (exfalso;omega)|refine Wu.h ?_ ?_<;>intro h<;>try simp only [h]|((fail_if_success refine Wz.h ?_);first|simp (disch:=omega) only [↓LD,LA,a0A,seval,fG,outT,b0M,c0U,b0X,b0Y,b0Q,-a0A]|(refine And.intro ?_ ?_;omega)|fail))
     ·refine a0X (c0y (gt ds k) dn (hp _ (a0K hkl)) (hn _ (a0K hkl))) (.cons (Vw.ags (.cons .f (.cons .f (.cons .f .nil)))) (.cons (hd ▸ .sl rfl (fun e=>by omega)) .nil)) ?_ ?_
      ·rintro _ _ ⟨rfl,rfl⟩
       exact ⟨.f .v,by simp⟩
      rintro _ _ ⟨rfl,rfl⟩
      repeat' (with_reducible first|refine Wx.h ?_|refine Wb.h fun K hK=>?_|(refine hK _ ?_;clear hK K)|refine Wq.h ?_ ?_<;>intro h|((fail_if_success refine Wz.h ?_);first|simp (disch:=omega) only [↓LD,LA,a0A,seval,fG,outT,List.append_nil]|(refine And.intro ?_ ?_;omega)|fail))
      ·have hz:nxt dn 0 ds=(k:Int):=by rw [hnk,if_pos (by rw [Bool.and_eq_true];exact ⟨by assumption,by assumption⟩)]
       subst ho
       refine Next.mk (k+1,true,0+1,dn.set k true,[]++[(k:Int)]) (by kernel_rfl) ⟨by omega,?_,?_⟩ (by dsimp only;omega)
       ·intro h;cases h
       ·intro _;rw [hz];exact ⟨by omega,rfl,by simp,rfl⟩
      ·exact Next.mk (k+1,false,m,dn,[]) (by kernel_rfl) ⟨by omega,fun _=>⟨rfl,rfl,rfl,by rw [hnk,if_neg (by rw [show metB dn (gt ds k).ns=false by assumption,Bool.and_false];exact Bool.false_ne_true)]⟩,fun h=>by cases h⟩ (by dsimp only;omega)
     ·exact Next.mk (k+1,false,m,dn,[]) (by kernel_rfl) ⟨by omega,fun _=>⟨rfl,rfl,rfl,by rw [hnk,if_neg (by rw [show (!gt dn k)=false by assumption,Bool.false_and];exact Bool.false_ne_true)]⟩,fun h=>by cases h⟩ (by dsimp only;omega)
    ·rw [List.drop_of_length_le (by omega),nxt] at hnk
     repeat' (with_reducible first|refine Wx.h ?_|refine Wb.h fun K hK=>?_|(refine hK _ ?_;clear hK K)|refine Wq.h ?_ ?_<;>intro h<;>try (exfalso;omega)|((fail_if_success refine Wz.h ?_);simp (disch:=omega) only [↓LD,LA,a0A,seval,fG,outT]))
     exact Next.mk (false,m,dn,[]) (by kernel_rfl) ⟨hd,ho,hop,hr,fun _=>by dsimp only;rw [hr,r0K (by omega)]⟩ (by simp)
  ·repeat' (with_reducible first|refine Wx.h ?_|refine Wb.h fun K hK=>?_|(refine hK _ ?_;clear hK K)|((fail_if_success refine Wz.h ?_);simp (disch:=omega) only [↓LD,LA,a0A,seval,fG,outT]))
   refine HS.loopG [0,3,4,5,6] (fun x:Nat × Bool × Nat × List Bool × List Int=>⟨frm 42 [(0,.f (fG ds)),(3,.sl 0 0 ds.length),(4,(outT x.2.2.2.1 x.2.2.1 x.2.2.2.2).1),(5,D.bool x.2.1),(6,D.int x.1)],(outT x.2.2.2.1 x.2.2.1 x.2.2.2.2).2,[]⟩)
    (fun x=>x.1≤ds.length∧(x.2.1=false→x.2.2.1=n∧x.2.2.2.1=done∧x.2.2.2.2=(a :: l)∧nxt done 0 ds=nxt done x.1 (ds.drop x.1))∧(x.2.1=true→0≤nxt done 0 ds∧x.2.2.1=n+1∧x.2.2.2.1=done.set (nxt done 0 ds).toNat true∧x.2.2.2.2=(a :: l)++[nxt done 0 ds])) (fun x=>ds.length-x.1) (0,false,n,done,(a :: l)) (by kernel_rfl)
    ⟨Nat.zero_le _,fun _=>⟨rfl,rfl,rfl,rfl⟩,fun h=>by cases h⟩ ?_
   rintro ⟨k,ag,m,dn,ot⟩ ⟨hk,hf,ht⟩
   dsimp only at hk hf ht
   cases ag with
   | true =>
    obtain ⟨h0,rfl,rfl,rfl⟩:=ht rfl
    have hnx:=hnx h0
    repeat' (with_reducible first|refine Wx.h ?_|refine Wb.h fun K hK=>?_|(refine hK _ ?_;clear hK K)|refine Wq.h ?_ ?_<;>intro h|((fail_if_success refine Wz.h ?_);simp (disch:=omega) only [↓LD,LA,a0A,seval,fG,outT]))
    all_goals
     refine Next.mk (true,n+1,done.set (nxt done 0 ds).toNat true,(a :: l)++[nxt done 0 ds]) (by kernel_rfl) ⟨by dsimp only;rw [List.length_set,hd],by simp [←ho],by dsimp only;omega,?_,fun h=>by cases h⟩ (by simp;omega)
     rw [hr,←hnx,ordF,if_neg (by omega)]
   | false =>
    obtain ⟨rfl,rfl,rfl,hnk⟩:=hf rfl
    by_cases hkl:k<ds.length
    ·rw [a0G hkl,nxt] at hnk
     repeat' (with_reducible first|refine Wx.h ?_|refine Wb.h fun K hK=>?_|(refine hK _ ?_;clear hK K)|refine Wq.h ?_ ?_<;>intro h<;>try (exfalso;omega)|refine Wu.h ?_ ?_<;>intro h<;>try simp only [h]|((fail_if_success refine Wz.h ?_);first|simp (disch:=omega) only [↓LD,LA,a0A,seval,fG,outT,b0M,c0U,b0X,b0Y,b0Q,-a0A]|(refine And.intro ?_ ?_;omega)|fail))
     ·refine a0X (c0y (gt ds k) dn (hp _ (a0K hkl)) (hn _ (a0K hkl))) (.cons (Vw.ags (.cons .f (.cons .f (.cons .f .nil)))) (.cons (hd ▸ .sl rfl (fun e=>by omega)) .nil)) ?_ ?_
      ·rintro _ _ ⟨rfl,rfl⟩
       exact ⟨.f .v,by simp⟩
      rintro _ _ ⟨rfl,rfl⟩
      repeat' (with_reducible first|refine Wx.h ?_|refine Wb.h fun K hK=>?_|(refine hK _ ?_;clear hK K)|refine Wq.h ?_ ?_<;>intro h|((fail_if_success refine Wz.h ?_);first|simp (disch:=omega) only [↓LD,LA,a0A,seval,fG,outT,List.append_nil]|(refine And.intro ?_ ?_;omega)|fail))
      ·have hz:nxt dn 0 ds=(k:Int):=by rw [hnk,if_pos (by rw [Bool.and_eq_true];exact ⟨by assumption,by assumption⟩)]
       subst ho
       refine Next.mk (k+1,true,(l.length+1)+1,dn.set k true,(a :: l)++[(k:Int)]) (by kernel_rfl) ⟨by omega,?_,?_⟩ (by dsimp only;omega)
       ·intro h;cases h
       ·intro _;rw [hz];exact ⟨by omega,rfl,by simp,rfl⟩
      ·exact Next.mk (k+1,false,m,dn,(a :: l)) (by kernel_rfl) ⟨by omega,fun _=>⟨rfl,rfl,rfl,by rw [hnk,if_neg (by rw [show metB dn (gt ds k).ns=false by assumption,Bool.and_false];exact Bool.false_ne_true)]⟩,fun h=>by cases h⟩ (by dsimp only;omega)
     ·exact Next.mk (k+1,false,m,dn,(a :: l)) (by kernel_rfl) ⟨by omega,fun _=>⟨rfl,rfl,rfl,by rw [hnk,if_neg (by rw [show (!gt dn k)=false by assumption,Bool.false_and];exact Bool.false_ne_true)]⟩,fun h=>by cases h⟩ (by dsimp only;omega)
    ·rw [List.drop_of_length_le (by omega),nxt] at hnk
     repeat' (with_reducible first|refine Wx.h ?_|refine Wb.h fun K hK=>?_|(refine hK _ ?_;clear hK K)|refine Wq.h ?_ ?_<;>intro h<;>try (exfalso;omega)|((fail_if_success refine Wz.h ?_);simp (disch:=omega) only [↓LD,LA,a0A,seval,fG,outT]))
     exact Next.mk (false,m,dn,(a :: l)) (by kernel_rfl) ⟨hd,ho,hop,hr,fun _=>by dsimp only;rw [hr,r0K (by omega)]⟩ (by simp)
def lstI (ns:List Int)(k:Nat):Int:=if k=0 then -1 else gt ns (k-1)
theorem i0z {d:Nd}{n:Int}:b0B d n=(rise n (-1) d.ns&&(decide (1≤d.tr)&&decide (d.tr≤5)&&decide (1≤d.le)&&decide (d.le≤1048576))):=rfl
set_option maxRecDepth 100000 in
theorem s0N (ds:List Nd)(hf:Fit ds):Con Tryz.prog 104 [.f (fG ds)] [] fun r H'=>r=D.int (a0r ds)∧H'=[]:=by
 obtain ⟨hl,hn⟩:=hf
 refine Con.walk good r0f (by simp) ?_
 unfold h0u
 simp only [a0I,List.length_cons,List.length_nil,Nat.reduceAdd]
 by_cases h18:ds.length<1∨8<ds.length
 ·have hc:a0r ds=1:=if_pos h18
  repeat' (with_reducible first|refine Wx.h ?_|refine Wb.h fun K hK=>?_|(refine hK _ ?_;clear hK K)|refine Wq.h ?_ ?_<;>intro h<;>try (exfalso;omega)|((fail_if_success refine Wz.h ?_);simp (disch:=omega) only [↓LD,LA,a0A,seval,fG]))
  all_goals exact end1 rfl rfl (by kernel_rfl) .f ⟨by rw [hc];try rfl,rfl⟩
 have hc1:ds.all (fun d=>b0B d ds.length)=false→a0r ds=1:=fun h=>by rw [a0r,if_neg h18,if_pos h]
 repeat' (with_reducible first|refine Wx.h ?_|refine Wb.h fun K hK=>?_|(refine hK _ ?_;clear hK K)|refine Wq.h ?_ ?_<;>intro h<;>try (exfalso;omega)|((fail_if_success refine Wz.h ?_);simp (disch:=omega) only [↓LD,LA,a0A,seval,fG]))
 refine HS.loopG [0,3] (fun i:Nat=>⟨frm 89 [(0,.f (fG ds)),(3,D.int i)],[],[]⟩)
  (fun i=>i≤ds.length∧ds.all (fun d=>b0B d ds.length)=(ds.drop i).all (fun d=>b0B d ds.length)) (fun i=>ds.length-i) 0 (by kernel_rfl) ⟨Nat.zero_le _,rfl⟩ ?_
 rintro i ⟨hi,ha⟩
 by_cases hil:i<ds.length
 ·have hnl:=hn _ (a0K hil)
  rw [a0G hil,List.all_cons,i0z] at ha
  by_cases htl:1≤(gt ds i).tr∧(gt ds i).tr≤5∧1≤(gt ds i).le∧(gt ds i).le≤1048576
  rotate_left
  ·have hc:=hc1 (by rw [ha,show (decide (1≤(gt ds i).tr)&&decide ((gt ds i).tr≤5)&&decide (1≤(gt ds i).le)&&decide ((gt ds i).le≤1048576))=false by simp only [Bool.and_eq_false_iff,decide_eq_false_iff_not];omega,Bool.and_false,Bool.false_and])
   repeat' (with_reducible first|refine Wx.h ?_|refine Wb.h fun K hK=>?_|(refine hK _ ?_;clear hK K)|refine Wq.h ?_ ?_<;>intro h<;>try (exfalso;omega)|((fail_if_success refine Wz.h ?_);first|simp (disch:=omega) only [↓LD,LA,a0A,seval,fG,b0M,c0U,b0X,b0Y,b0Q,-a0A]|(refine And.intro ?_ ?_;omega)|fail))
   all_goals exact end1 rfl rfl (by kernel_rfl) .f ⟨by rw [hc];try rfl,rfl⟩
  rw [show (decide (1≤(gt ds i).tr)&&decide ((gt ds i).tr≤5)&&decide (1≤(gt ds i).le)&&decide ((gt ds i).le≤1048576))=true by simp only [Bool.and_eq_true,decide_eq_true_eq];omega,Bool.and_true] at ha
  repeat' (with_reducible first|refine Wx.h ?_|refine Wb.h fun K hK=>?_|(refine hK _ ?_;clear hK K)|refine Wq.h ?_ ?_<;>intro h<;>try (exfalso;omega)|((fail_if_success refine Wz.h ?_);first|simp (disch:=omega) only [↓LD,LA,a0A,seval,fG,b0M,c0U,b0X,b0Y,b0Q,-a0A]|(refine And.intro ?_ ?_;omega)|fail))
  refine HS.loopG [0,3,4,5] (fun k:Nat=>⟨frm 89 [(0,.f (fG ds)),(3,D.int i),(4,.pt 0 0),(5,D.int k)],[.box 123 [.f (fI (gt ds i).ns),D.int (gt ds i).tr,D.int (gt ds i).le]],[]⟩)
   (fun k=>k≤(gt ds i).ns.length ∧ -1≤lstI (gt ds i).ns k∧rise ds.length (-1) (gt ds i).ns=rise ds.length (lstI (gt ds i).ns k) ((gt ds i).ns.drop k)) (fun k=>(gt ds i).ns.length-k) 0 (by kernel_rfl) ⟨Nat.zero_le _,by simp [lstI],rfl⟩ ?_
  rintro k ⟨hk,hlb,hrs⟩
  by_cases hkl:k<(gt ds i).ns.length
  ·rw [a0G hkl,rise] at hrs
   have hl1:lstI (gt ds i).ns (k+1)=gt (gt ds i).ns k:=by rw [lstI,if_neg (by omega)];try rfl
   by_cases hgd:lstI (gt ds i).ns k<gt (gt ds i).ns k∧gt (gt ds i).ns k<ds.length
   ·rw [decide_eq_true hgd.1,decide_eq_true hgd.2,←hl1] at hrs
    by_cases hk0:k=0
    ·subst hk0
     repeat' (with_reducible first|refine Wx.h ?_|refine We.h fun K hK=>?_|refine Wd.h fun K M hK hM=>?_|(refine hK _ _ _ _ ?_;clear hK K;try clear hM M)|(refine hM ?_;clear hM M;try clear hK K)|refine Wb.h fun K hK=>?_|(refine hK _ ?_;clear hK K)|(refine Wy.h ?_ ?_;kernel_rfl)|refine Wq.h ?_ ?_<;>intro h<;>try (exfalso;omega)|((fail_if_success refine Wz.h ?_);first|simp (disch:=omega) only [↓LD,LA,a0A,seval,fG,fI]|(refine And.intro ?_ ?_;omega)|fail))
     exact Next.mk 1 (by kernel_rfl) ⟨by omega,by rw [hl1];omega,by rw [hrs];try rfl⟩ (by omega)
    ·have hl2:lstI (gt ds i).ns k=gt (gt ds i).ns ((k:Int)-1).toNat:=by rw [lstI,if_neg hk0,show ((k:Int)-1).toNat=k-1 by omega]
     repeat' (with_reducible first|refine Wx.h ?_|refine We.h fun K hK=>?_|refine Wd.h fun K M hK hM=>?_|(refine hK _ _ _ _ ?_;clear hK K;try clear hM M)|refine Wb.h fun K hK=>?_|(refine hK _ ?_;clear hK K)|(refine Wy.h ?_ ?_;kernel_rfl)|refine Wq.h ?_ ?_<;>intro h<;>try (exfalso;omega)|((fail_if_success refine Wz.h ?_);first|simp (disch:=omega) only [↓LD,LA,a0A,seval,fG,fI]|(refine And.intro ?_ ?_;omega)|fail))
     exact Next.mk (k+1) (by kernel_rfl) ⟨by omega,by rw [hl1];omega,by rw [hrs];try rfl⟩ (by omega)
   ·have hc:=hc1 (by rw [ha,hrs,show (decide (lstI (gt ds i).ns k<gt (gt ds i).ns k)&&decide (gt (gt ds i).ns k<ds.length))=false by simp only [Bool.and_eq_false_iff,decide_eq_false_iff_not];omega,Bool.false_and,Bool.false_and])
    by_cases hk0:k=0
    ·subst hk0
     have hl2:lstI (gt ds i).ns 0 = -1:=rfl
     repeat' (with_reducible first|refine Wx.h ?_|refine We.h fun K hK=>?_|refine Wd.h fun K M hK hM=>?_|(refine hK _ _ _ _ ?_;clear hK K;try clear hM M)|(refine hM ?_;clear hM M;try clear hK K)|refine Wb.h fun K hK=>?_|(refine hK _ ?_;clear hK K)|(refine Wy.h ?_ ?_;kernel_rfl)|refine Wq.h ?_ ?_<;>intro h<;>try (exfalso;omega)|((fail_if_success refine Wz.h ?_);first|simp (disch:=omega) only [↓LD,LA,a0A,seval,fG,fI]|(refine And.intro ?_ ?_;omega)|fail))
     all_goals exact end1 rfl rfl (by kernel_rfl) .f ⟨by rw [hc];try rfl,rfl⟩
    ·have hl2:lstI (gt ds i).ns k=gt (gt ds i).ns ((k:Int)-1).toNat:=by rw [lstI,if_neg hk0,show ((k:Int)-1).toNat=k-1 by omega]
     repeat' (with_reducible first|refine Wx.h ?_|refine We.h fun K hK=>?_|refine Wd.h fun K M hK hM=>?_|(refine hK _ _ _ _ ?_;clear hK K;try clear hM M)|(refine hM ?_;clear hM M;try clear hK K)|refine Wb.h fun K hK=>?_|(refine hK _ ?_;clear hK K)|(refine Wy.h ?_ ?_;kernel_rfl)|refine Wq.h ?_ ?_<;>intro h<;>try (exfalso;omega)|((fail_if_success refine Wz.h ?_);first|simp (disch:=omega) only [↓LD,LA,a0A,seval,fG,fI]|(refine And.intro ?_ ?_;omega)|fail))
     all_goals exact end1 rfl rfl (by kernel_rfl) .f ⟨by rw [hc];try rfl,rfl⟩
  ·rw [List.drop_of_length_le (by omega),rise] at hrs
   rw [hrs,Bool.true_and] at ha
   repeat' (with_reducible first|refine Wx.h ?_|refine Wb.h fun K hK=>?_|(refine hK _ ?_;clear hK K)|refine Wq.h ?_ ?_<;>intro h<;>try (exfalso;omega)|((fail_if_success refine Wz.h ?_);simp (disch:=omega) only [↓LD,LA,a0A,seval,fG,fI]))
   exact Next.mk (i+1) (by kernel_rfl) ⟨by omega,ha⟩ (by omega)
 ·rw [List.drop_of_length_le (by omega),List.all_nil] at ha
  have hp:=z0K ha
  have hck:a0r ds=if (f0M ds).length<ds.length then 9 else 0:=by rw [a0r,if_neg h18,if_neg (by rw [ha];simp)]
  repeat' (with_reducible first|refine Wx.h ?_|refine Wb.h fun K hK=>?_|(refine hK _ ?_;clear hK K)|refine Wq.h ?_ ?_<;>intro h<;>try (exfalso;omega)|((fail_if_success refine Wz.h ?_);simp (disch:=omega) only [↓LD,LA,a0A,seval,fG]))
  refine b0D (s0f ds ⟨hl,hn⟩ hp) ?_
  rintro _ _ ⟨rfl,rfl⟩
  repeat' (with_reducible first|refine Wx.h ?_|refine Wb.h fun K hK=>?_|(refine hK _ ?_;clear hK K)|refine Wq.h ?_ ?_<;>intro h|((fail_if_success refine Wz.h ?_);simp (disch:=omega) only [↓LD,LA,a0A,seval,fG,fI]))
  ·exact end1 rfl rfl (by kernel_rfl) .f ⟨by rw [hck,if_pos (by omega)];try rfl,rfl⟩
  ·exact end1 rfl rfl (by kernel_rfl) .f ⟨by rw [hck,if_neg (by omega)];try rfl,rfl⟩
theorem i0j (ds:List Nd)(done:List Bool)(hf:Fit ds)(hp:Pos ds)(hd:done.length<140737488355328):Con Tryz.prog 164 [.f (fG ds),.f (fB done)] [] fun r H'=>r = .f (fI (rdy done 0 ds))∧H'=[]:=by
 obtain ⟨hl,hn⟩:=hf
 refine Con.walk good r0v (by simp) ?_
 unfold k0A
 simp only [a0I,List.length_cons,List.length_nil,Nat.reduceAdd]
 repeat' (with_reducible first|refine Wx.h ?_|refine Wb.h fun K hK=>?_|(refine hK _ ?_;clear hK K)|((fail_if_success refine Wz.h ?_);simp (disch:=omega) only [↓LD,LA,a0A,seval]))
 refine HS.loopG [0,1,5,6] (fun x:Nat × Nat × List Int=>⟨frm 37 [(0,.f (fG ds)),(1,.f (fB done)),(5,(outR x.2.1 x.2.2).1),(6,D.int x.1)],(outR x.2.1 x.2.2).2,[]⟩)
  (fun x=>x.1≤ds.length∧x.2.2.length=x.2.1∧x.2.1≤x.1∧rdy done 0 ds=x.2.2++rdy done x.1 (ds.drop x.1)) (fun x=>ds.length-x.1) (0,0,[]) (by kernel_rfl) ⟨Nat.zero_le _,rfl,Nat.le_refl _,rfl⟩ ?_
 rintro ⟨k,n,out⟩ ⟨hk,ho,hnk,hr⟩
 dsimp only at hk ho hnk hr
 rcases out with _|⟨a,l⟩
 ·try simp only [List.length_cons] at ho
  repeat' (with_reducible first|refine Wx.h ?_|refine Wb.h fun K hK=>?_|(refine hK _ ?_;clear hK K)|refine Wq.h ?_ ?_<;>intro h|refine Wu.h ?_ ?_<;>intro h<;>try simp only [h]|((fail_if_success refine Wz.h ?_);first|simp (disch:=omega) only [↓LD,LA,a0A,seval,fG,fB,outR,b0M,c0U,b0X,b0Y,b0Q,-a0A]|(refine And.intro ?_ ?_;omega)|fail))
  ·have hin:inB done k=false:=o0L (by omega)
   refine a0X (c0y (gt ds k) done (hp _ (a0K (by omega))) (hn _ (a0K (by omega)))) (.cons (Vw.ags (.cons .f (.cons .f (.cons .f .nil)))) (.cons .f .nil)) ?_ ?_
   ·rintro _ _ ⟨rfl,rfl⟩
    exact ⟨.f .v,by simp⟩
   rintro _ _ ⟨rfl,rfl⟩
   repeat' (with_reducible first|refine Wx.h ?_|refine Wb.h fun K hK=>?_|(refine hK _ ?_;clear hK K)|refine Wq.h ?_ ?_<;>intro h|((fail_if_success refine Wz.h ?_);simp (disch:=omega) only [↓LD,LA,a0A,seval,fG,fB,List.append_nil]))
   ·subst ho
    refine Next.mk (k+1,0+1,[]++[(k:Int)]) (by kernel_rfl) ⟨by omega,by simp,by simp at *<;>omega,?_⟩ (by omega)
    rw [hr,a0G (by omega),rdy,if_pos (by simp [hin,h])];simp
   ·refine Next.mk (k+1,n,[]) (by kernel_rfl) ⟨by omega,ho,by dsimp only;omega,?_⟩ (by omega)
    rw [hr,a0G (by omega),rdy,if_neg (by simp [hin,h])]
  ·have hin:inB done k=false:=by rw [g0k (by omega)];simpa using h
   refine a0X (c0y (gt ds k) done (hp _ (a0K (by omega))) (hn _ (a0K (by omega)))) (.cons (Vw.ags (.cons .f (.cons .f (.cons .f .nil)))) (.cons .f .nil)) ?_ ?_
   ·rintro _ _ ⟨rfl,rfl⟩
    exact ⟨.f .v,by simp⟩
   rintro _ _ ⟨rfl,rfl⟩
   repeat' (with_reducible first|refine Wx.h ?_|refine Wb.h fun K hK=>?_|(refine hK _ ?_;clear hK K)|refine Wq.h ?_ ?_<;>intro h|((fail_if_success refine Wz.h ?_);simp (disch:=omega) only [↓LD,LA,a0A,seval,fG,fB,List.append_nil]))
   ·subst ho
    refine Next.mk (k+1,0+1,[]++[(k:Int)]) (by kernel_rfl) ⟨by omega,by simp,by simp at *<;>omega,?_⟩ (by omega)
    rw [hr,a0G (by omega),rdy,if_pos (by simp [hin,h])];simp
   ·refine Next.mk (k+1,n,[]) (by kernel_rfl) ⟨by omega,ho,by dsimp only;omega,?_⟩ (by omega)
    rw [hr,a0G (by omega),rdy,if_neg (by simp [hin,h])]
  ·have hin:inB done k=true:=by rw [g0k (by omega)];simpa using h
   refine Next.mk (k+1,n,[]) (by kernel_rfl) ⟨by omega,ho,by dsimp only;omega,?_⟩ (by omega)
   rw [hr,a0G (by omega),rdy,if_neg (by simp [hin])]
  ·refine end1 rfl rfl (by kernel_rfl) (.nil) ⟨congrArg D.f ?_,rfl⟩
   rw [hr,(List.drop_of_length_le (by omega):List.drop k ds=[]),rdy,List.append_nil]
   first|rfl|(unfold fI;rw [←ho];try rfl)
 ·try simp only [List.length_cons] at ho
  repeat' (with_reducible first|refine Wx.h ?_|refine Wb.h fun K hK=>?_|(refine hK _ ?_;clear hK K)|refine Wq.h ?_ ?_<;>intro h|refine Wu.h ?_ ?_<;>intro h<;>try simp only [h]|((fail_if_success refine Wz.h ?_);first|simp (disch:=omega) only [↓LD,LA,a0A,seval,fG,fB,outR,b0M,c0U,b0X,b0Y,b0Q,-a0A]|(refine And.intro ?_ ?_;omega)|fail))
  ·have hin:inB done k=false:=o0L (by omega)
   refine a0X (c0y (gt ds k) done (hp _ (a0K (by omega))) (hn _ (a0K (by omega)))) (.cons (Vw.ags (.cons .f (.cons .f (.cons .f .nil)))) (.cons .f .nil)) ?_ ?_
   ·rintro _ _ ⟨rfl,rfl⟩
    exact ⟨.f .v,by simp⟩
   rintro _ _ ⟨rfl,rfl⟩
   repeat' (with_reducible first|refine Wx.h ?_|refine Wb.h fun K hK=>?_|(refine hK _ ?_;clear hK K)|refine Wq.h ?_ ?_<;>intro h|((fail_if_success refine Wz.h ?_);first|simp (disch:=omega) only [↓LD,LA,a0A,seval,fG,fB,List.append_nil]|(refine And.intro ?_ ?_;omega)|fail))
   ·subst ho
    refine Next.mk (k+1,(l.length+1)+1,(a :: l)++[(k:Int)]) (by kernel_rfl) ⟨by omega,by simp,by simp at *<;>omega,?_⟩ (by omega)
    rw [hr,a0G (by omega),rdy,if_pos (by simp [hin,h])];simp
   ·refine Next.mk (k+1,n,(a :: l)) (by kernel_rfl) ⟨by omega,ho,by dsimp only;omega,?_⟩ (by omega)
    rw [hr,a0G (by omega),rdy,if_neg (by simp [hin,h])]
  ·have hin:inB done k=false:=by rw [g0k (by omega)];simpa using h
   refine a0X (c0y (gt ds k) done (hp _ (a0K (by omega))) (hn _ (a0K (by omega)))) (.cons (Vw.ags (.cons .f (.cons .f (.cons .f .nil)))) (.cons .f .nil)) ?_ ?_
   ·rintro _ _ ⟨rfl,rfl⟩
    exact ⟨.f .v,by simp⟩
   rintro _ _ ⟨rfl,rfl⟩
   repeat' (with_reducible first|refine Wx.h ?_|refine Wb.h fun K hK=>?_|(refine hK _ ?_;clear hK K)|refine Wq.h ?_ ?_<;>intro h|((fail_if_success refine Wz.h ?_);first|simp (disch:=omega) only [↓LD,LA,a0A,seval,fG,fB,List.append_nil]|(refine And.intro ?_ ?_;omega)|fail))
   ·subst ho
    refine Next.mk (k+1,(l.length+1)+1,(a :: l)++[(k:Int)]) (by kernel_rfl) ⟨by omega,by simp,by simp at *<;>omega,?_⟩ (by omega)
    rw [hr,a0G (by omega),rdy,if_pos (by simp [hin,h])];simp
   ·refine Next.mk (k+1,n,(a :: l)) (by kernel_rfl) ⟨by omega,ho,by dsimp only;omega,?_⟩ (by omega)
    rw [hr,a0G (by omega),rdy,if_neg (by simp [hin,h])]
  ·have hin:inB done k=true:=by rw [g0k (by omega)];simpa using h
   refine Next.mk (k+1,n,(a :: l)) (by kernel_rfl) ⟨by omega,ho,by dsimp only;omega,?_⟩ (by omega)
   rw [hr,a0G (by omega),rdy,if_neg (by simp [hin])]
  ·refine end1 rfl rfl (by kernel_rfl) (.sl rfl (fun e=>by omega)) ⟨congrArg D.f ?_,rfl⟩
   rw [hr,(List.drop_of_length_le (by omega):List.drop k ds=[]),rdy,List.append_nil]
   first|rfl|(unfold fI;rw [←ho];try rfl)
set_option maxHeartbeats 4000000
theorem c1W {l:List Nn}{i:Nat}{k:Int}(hil:i<l.length):cntL (l.take (i+1)) k=cntL (l.take i) k+(if (gt l i).st=k then 1 else 0):=by
 rw [List.take_succ_eq_append_getElem hil,cntL,List.countP_append,←b0P hil]
 simp [cntL]
theorem f1V {l:List Nn}{i:Nat}{k:Int}(hi:i≤l.length):cntL (l.take i) k≤i:=Nat.le_trans (List.countP_le_length) (by simp;omega)
theorem d0S (s:S12)(k:Int)(hl:s.nodes.length≤1000000):Con Tryz.prog 107 [stD s,D.int k] [] fun r H'=>r=D.int (cntL s.nodes k)∧H'=[]:=by
 obtain ⟨id,ver,time,closed,cancel,defs,nodes,tms,sgs⟩:=s
 dsimp only at hl ⊢
 refine Con.walk good r0u (by simp) ?_
 unfold j0Q
 simp only [a0I,stD]
 repeat' (with_reducible first|refine Wx.h ?_|refine Wb.h fun K hK=>?_|(refine hK _ ?_;clear hK K)|((fail_if_success refine Wz.h ?_);simp (disch:=omega) only [↓LD,LA,a0A,seval,LSt]))
 refine HS.loopG [1,2,5,6] (fun i:Nat=>⟨frm 25 [(1,D.int k),(2,.pt 0 0),(5,D.int (cntL (nodes.take i) k)),(6,D.int i)],[stF ⟨id,ver,time,closed,cancel,defs,nodes,tms,sgs⟩],[]⟩)
  (fun i=>i≤nodes.length) (fun i=>nodes.length-i) 0 (by kernel_rfl) (Nat.zero_le _) ?_
 rintro i hi
 by_cases hil:i<nodes.length
 ·have hc:=f1V (k:=k) hi
  have hs:=c1W (k:=k) hil
  repeat' (with_reducible first|refine Wx.h ?_|refine Wb.h fun K hK=>?_|(refine hK _ ?_;clear hK K)|refine Wq.h ?_ ?_<;>intro h<;>try (exfalso;omega)|((fail_if_success refine Wz.h ?_);first|simp (disch:=omega) only [↓LD,LA,a0A,seval,LSt,stF,b0z,Nn.cs,a0h]|(refine And.intro ?_ ?_;omega)|fail))
  ·exact Next.mk (i+1) (by rw [hs,if_pos (by assumption)];kernel_rfl) (by omega) (by omega)
  ·exact Next.mk (i+1) (by rw [hs,if_neg (by assumption)];kernel_rfl) (by omega) (by omega)
 ·repeat' (with_reducible first|refine Wx.h ?_|refine Wb.h fun K hK=>?_|(refine hK _ ?_;clear hK K)|refine Wq.h ?_ ?_<;>intro h<;>try (exfalso;omega)|((fail_if_success refine Wz.h ?_);simp (disch:=omega) only [↓LD,LA,a0A,seval,LSt,stF]))
  refine end1 rfl rfl (by kernel_rfl) .f ⟨?_,rfl⟩
  rw [List.take_of_length_le (by omega)];try rfl
theorem o0p (s:S12)(nm:Bs)(hl:s.sgs.length≤1000000):Con Tryz.prog 30 [stD s,.f (.v (.string (BB nm)))] [] fun r H'=>r=D.bool (f0K s.sgs nm)∧H'=[]:=by
 obtain ⟨id,ver,time,closed,cancel,defs,nodes,tms,sgs⟩:=s
 dsimp only at hl ⊢
 refine Con.walk good x0e (by simp) ?_
 unfold q0T
 simp only [a0I,stD]
 repeat' (with_reducible first|refine Wx.h ?_|refine Wb.h fun K hK=>?_|(refine hK _ ?_;clear hK K)|((fail_if_success refine Wz.h ?_);simp (disch:=omega) only [↓LD,LA,a0A,seval,LSt]))
 refine HS.loopG [1,2,5] (fun i:Nat=>⟨frm 21 [(1,.f (.v (.string (BB nm)))),(2,.pt 0 0),(5,D.int i)],[stF ⟨id,ver,time,closed,cancel,defs,nodes,tms,sgs⟩],[]⟩)
  (fun i=>i≤sgs.length∧f0K sgs nm=f0K (sgs.drop i) nm) (fun i=>sgs.length-i) 0 (by kernel_rfl) ⟨Nat.zero_le _,rfl⟩ ?_
 rintro i ⟨hi,hh⟩
 by_cases hil:i<sgs.length
 ·rw [a0G hil] at hh
  have hh2:f0K (gt sgs i :: sgs.drop (i+1)) nm=(decide ((gt sgs i).name=nm)||f0K (sgs.drop (i+1)) nm):=rfl
  rw [hh2] at hh
  repeat' (with_reducible first|refine Wx.h ?_|refine Wb.h fun K hK=>?_|(refine hK _ ?_;clear hK K)|refine Wq.h ?_ ?_<;>intro h<;>try (exfalso;omega)|((fail_if_success refine Wz.h ?_);first|simp (disch:=omega) only [↓LD,LA,a0A,seval,LSt,stF,e1t,Sg.cs,s0R]|(refine And.intro ?_ ?_;omega)|fail))
  ·exact end1 rfl rfl (by kernel_rfl) .f ⟨by rw [hh,decide_eq_true (by assumption)];try rfl,rfl⟩
  ·exact Next.mk (i+1) (by kernel_rfl) ⟨by omega,by rw [hh,decide_eq_false (by assumption)];try rfl⟩ (by omega)
 ·repeat' (with_reducible first|refine Wx.h ?_|refine Wb.h fun K hK=>?_|(refine hK _ ?_;clear hK K)|refine Wq.h ?_ ?_<;>intro h<;>try (exfalso;omega)|((fail_if_success refine Wz.h ?_);simp (disch:=omega) only [↓LD,LA,a0A,seval,LSt,stF]))
  refine end1 rfl rfl (by kernel_rfl) .f ⟨?_,rfl⟩
  rw [hh,List.drop_of_length_le (by omega)];try rfl
theorem s0z (s:S12)(nm:Bs)(hl:s.tms.length≤1000000):Con Tryz.prog 148 [stD s,.f (.v (.string (BB nm)))] [] fun r H'=>r=D.int (tmI s.tms nm)∧H'=[]:=by
 obtain ⟨id,ver,time,closed,cancel,defs,nodes,tms,sgs⟩:=s
 dsimp only at hl ⊢
 refine Con.walk good o0i (by simp) ?_
 unfold i0P
 simp only [a0I,stD]
 repeat' (with_reducible first|refine Wx.h ?_|refine Wb.h fun K hK=>?_|(refine hK _ ?_;clear hK K)|((fail_if_success refine Wz.h ?_);simp (disch:=omega) only [↓LD,LA,a0A,seval,LSt]))
 refine HS.loopG [1,2,5] (fun i:Nat=>⟨frm 22 [(1,.f (.v (.string (BB nm)))),(2,.pt 0 0),(5,D.int i)],[stF ⟨id,ver,time,closed,cancel,defs,nodes,tms,sgs⟩],[]⟩)
  (fun i=>i≤tms.length∧tmI tms nm=idxF (fun x:Tm=>decide (x.name=nm)) i (tms.drop i)) (fun i=>tms.length-i) 0 (by kernel_rfl) ⟨Nat.zero_le _,rfl⟩ ?_
 rintro i ⟨hi,hh⟩
 by_cases hil:i<tms.length
 ·rw [a0G hil,idxF] at hh
  repeat' (with_reducible first|refine Wx.h ?_|refine Wb.h fun K hK=>?_|(refine hK _ ?_;clear hK K)|refine Wq.h ?_ ?_<;>intro h<;>try (exfalso;omega)|((fail_if_success refine Wz.h ?_);first|simp (disch:=omega) only [↓LD,LA,a0A,seval,LSt,stF,g0B,Tm.cs,e0s]|(refine And.intro ?_ ?_;omega)|fail))
  ·exact end1 rfl rfl (by kernel_rfl) .f ⟨by rw [hh,if_pos (by simp [*])];try rfl,rfl⟩
  ·exact Next.mk (i+1) (by kernel_rfl) ⟨by omega,by rw [hh,if_neg (by simp [*])]⟩ (by omega)
 ·repeat' (with_reducible first|refine Wx.h ?_|refine Wb.h fun K hK=>?_|(refine hK _ ?_;clear hK K)|refine Wq.h ?_ ?_<;>intro h<;>try (exfalso;omega)|((fail_if_success refine Wz.h ?_);simp (disch:=omega) only [↓LD,LA,a0A,seval,LSt,stF]))
  refine end1 rfl rfl (by kernel_rfl) .f ⟨?_,rfl⟩
  rw [hh,List.drop_of_length_le (by omega)];try rfl
def stK (a:Nat)(s:S12):List D:=[D.int s.id,D.int s.ver,D.int s.time,D.int s.closed,D.bool s.cancel,.f (fG s.defs),.sl a 0 s.nodes.length,.f (fTm s.tms),.f (fSg s.sgs)]
def a0a (s:S12):List Int:=if s.closed≠0∨s.cancel=true then [] else (rdy (a0l s.nodes) 0 s.defs).filter (wtB s.nodes)
theorem w0S {done:List Bool}:∀ {k:Nat} {ds:List Nd} {x:Int},x∈rdy done k ds→x<k+ds.length
 | k,[],x,h=>by simp [rdy] at h
 | k,d :: ds,x,h=>by
  simp only [rdy] at h
  simp only [List.length_cons]
  split at h
  ·rcases List.mem_cons.1 h with rfl|h
   ·omega
   ·have:=w0S h;omega
  ·have:=w0S h;omega
theorem r0m {l:List Nn}{i:Nat}(h:i<l.length):a0l (l.take i)++[decide ((gt l i).st=2)]=a0l (l.take (i+1)):=by
 rw [List.take_succ_eq_append_getElem h,←b0P h];simp [a0l]
theorem v0O {l:List Nn}{i:Nat}(h:i≤l.length):(a0l (l.take i)).length=i:=by simp [a0l];omega
theorem f1j {l:List Bool}{b:Bool}:l.map bF++[bF b]=(l++[b]).map bF:=by simp
theorem g0N (s:S12)(hf:Fit s.defs)(hp:Pos s.defs)(hl:s.nodes.length≤1000000)(hnd:s.nodes.length=s.defs.length):Con Tryz.prog 147 [stD s] [] fun r H'=>r = .f (fI (a0a s))∧H'=[]:=by
  obtain ⟨id,ver,time,closed,cancel,defs,nodes,tms,sgs⟩:=s
  dsimp only at hf hl hp hnd ⊢
  refine Con.walk good d0G (by simp) ?_
  unfold c0O
  simp only [stD,stK]
  simp only [a0I]
  repeat' (with_reducible first|refine Wx.h ?_|refine Wb.h fun K hK=>?_|(refine hK _ ?_;clear hK K)|refine Wq.h ?_ ?_<;>intro h|((fail_if_success refine Wz.h ?_);simp (disch:=omega) only [↓LD,LA,a0A,seval,LSt]))
  all_goals try (refine end1 rfl rfl (by kernel_rfl) .nil ⟨congrArg D.f ?_,rfl⟩;first|(rw [a0a,if_pos (.inl (by assumption))];try rfl)|(rw [a0a,if_pos (.inr (by assumption))];try rfl))
  have hr:a0a ⟨id,ver,time,closed,cancel,defs,nodes,tms,sgs⟩=(rdy (a0l nodes) 0 defs).filter (wtB nodes):=by
    rw [a0a,if_neg];simp_all
  refine HS.view (View.void 4) ?_
  refine HS.view (View.slot 3 (.sl 1 0 0) (.no (by show 1<1+1;omega))) ?_
  refine HS.loopG [1,3,4] (fun i:Nat=>⟨frm 60 [(1,.pt 0 0),(3,.sl 1 0 i),(4,D.int i)],[]++[stF ⟨id,ver,time,closed,cancel,defs,nodes,tms,sgs⟩,.data 4 ((a0l (nodes.take i)).map bF)],[]⟩)
    (fun i=>i≤nodes.length) (fun i=>nodes.length-i) 0 (by kernel_rfl) (Nat.zero_le _) ?_
  rintro i hi
  by_cases hil:i<nodes.length
  · have hdl:=v0O hi
    have hds:=r0m hil
    repeat' (with_reducible first|refine Wx.h ?_|refine Wb.h fun K hK=>?_|(refine hK _ ?_;clear hK K)|refine Wq.h ?_ ?_<;>intro h<;>try (exfalso;omega)|((fail_if_success refine Wz.h ?_);first|simp (disch:=omega) only [↓LD,LA,a0A,seval,LSt,stF,stK,rN,b0z,a0h,Nn.cs,List.length_map,hdl,List.cons_append,List.nil_append]|(refine And.intro ?_ ?_;omega)|fail))
    all_goals
      first|rw [decide_eq_true (by assumption)] at hds|rw [decide_eq_false (by assumption)] at hds
      rw [f1j,hds]
      exact Next.mk (i+1) (by kernel_rfl) (by omega) (by omega)
  obtain rfl:i=nodes.length:=by omega
  rw [List.take_length]
  have hdl:(a0l nodes).length=nodes.length:=by simp [a0l]
  refine HS.view (View.fzd 3 (k:=1) (b:=1) (z:=[.bool false]) rfl rfl (by kernel_rfl) (by simp [a0l]) (by omega) (by omega)) ?_
  rw [show F.s ((a0l nodes).map bF) nodes.length=fB (a0l nodes) by rw [fB,hdl]]
  repeat' (with_reducible first|refine Wx.h ?_|refine Wb.h fun K hK=>?_|(refine hK _ ?_;clear hK K)|refine Wq.h ?_ ?_<;>intro h<;>try (exfalso;omega)|((fail_if_success refine Wz.h ?_);simp (disch:=omega) only [↓LD,LA,a0A,seval,LSt,stF,stK,List.cons_append,List.nil_append]))
  refine a0C (i0j defs (a0l nodes) hf hp (by rw [hdl];omega)) rfl rfl rfl ?_
  repeat' (with_reducible first|refine Wx.h ?_|refine Wb.h fun K hK=>?_|(refine hK _ ?_;clear hK K)|((fail_if_success refine Wz.h ?_);simp (disch:=omega) only [↓LD,LA,a0A,seval,LSt,stF,stK,List.cons_append,List.nil_append]))
  have hpos:∀ x∈rdy (a0l nodes) 0 defs,0≤x∧x<nodes.length:=fun x hx=>⟨by have:=g0S hx;omega,by have:=w0S hx;omega⟩
  have hlen:(rdy (a0l nodes) 0 defs).length<1000:=Nat.lt_of_le_of_lt (i0C 0 defs) hf.1
  generalize rdy (a0l nodes) 0 defs=L at *
  refine HS.view (View.void 3) ?_
  refine HS.view (View.slot 5 (.sl 2 0 0) (.no (by show 2<2+1;omega))) ?_
  refine HS.loopG [1,5,6,7] (fun x:Nat × List Int=>⟨frm 60 [(1,.pt 0 0),(5,.sl 1 0 x.2.length),(6,.f (fI L)),(7,D.int x.1)],[]++[stF ⟨id,ver,time,closed,cancel,defs,nodes,tms,sgs⟩,.data 3 (x.2.map iF)],[]⟩)
    (fun x=>x.1≤L.length∧x.2.length≤x.1∧L.filter (wtB nodes)=x.2++(L.drop x.1).filter (wtB nodes)) (fun x=>L.length-x.1) (0,[]) (by kernel_rfl) ⟨Nat.zero_le _,Nat.le_refl _,rfl⟩ ?_
  rintro ⟨i,out⟩ ⟨hi,ho,hF⟩
  dsimp only at hi ho hF
  by_cases hil:i<L.length
  · obtain ⟨hp1,hp2⟩:=hpos _ (a0K hil)
    rw [a0G hil] at hF
    repeat' (with_reducible first|refine Wx.h ?_|refine We.h fun K hK=>?_|(refine hK _ _ _ _ ?_;clear hK K;try clear hM M)|refine Wb.h fun K hK=>?_|(refine hK _ ?_;clear hK K)|(refine Wy.h ?_ ?_;kernel_rfl)|refine Wq.h ?_ ?_<;>intro h<;>try (exfalso;omega)|((fail_if_success refine Wz.h ?_);first|simp (disch:=omega) only [↓LD,LA,a0A,seval,LSt,stF,stK,rN,b0z,a0h,Nn.cs,List.cons_append,List.nil_append]|(refine And.intro ?_ ?_;omega)|fail))
    all_goals first
      | (have hw:wtB nodes (gt L i)=true:=by unfold wtB;rw [decide_eq_true hp2,decide_eq_true (by assumption)];try rfl
         rw [List.filter_cons_of_pos hw] at hF
         rw [show out.length+1=(out++[gt L i]).length by simp]
         exact Next.mk (i+1,out++[gt L i]) (by kernel_rfl) ⟨by dsimp only;omega,by simp;omega,by dsimp only;rw [hF];simp⟩ (by dsimp only;omega))
      | (have hw:¬ wtB nodes (gt L i)=true:=by unfold wtB;rw [decide_eq_false (p:=(gt nodes (gt L i).toNat).st=0) (by assumption)];simp
         rw [List.filter_cons_of_neg hw] at hF
         exact Next.mk (i+1,out) (by kernel_rfl) ⟨by dsimp only;omega,by dsimp only;omega,hF⟩ (by dsimp only;omega))
  · repeat' (with_reducible first|refine Wx.h ?_|refine Wb.h fun K hK=>?_|(refine hK _ ?_;clear hK K)|refine Wq.h ?_ ?_<;>intro h<;>try (exfalso;omega)|((fail_if_success refine Wz.h ?_);simp (disch:=omega) only [↓LD,LA,a0A,seval,stF,stK,List.cons_append,List.nil_append]))
    refine end1 rfl rfl (by kernel_rfl) (.sl (T:=3) (xs:=out.map iF) rfl (fun e=>by rw [List.eq_nil_of_length_eq_zero e];try rfl)) ⟨?_,rfl⟩
    rw [hr,hF,show L.drop i=[] from List.drop_of_length_le (by omega),List.filter_nil,List.append_nil];try rfl
theorem g0C (s:S12)(hf:Fit s.defs)(hp:Pos s.defs)(hl:s.nodes.length≤1000000)(hnd:s.nodes.length=s.defs.length):Con Tryz.prog 147 [.ag (stK 0 s)] [rN s.nodes] fun r H'=>r = .f (fI (a0a s))∧H'=[rN s.nodes]:=by
  obtain ⟨id,ver,time,closed,cancel,defs,nodes,tms,sgs⟩:=s
  dsimp only at hf hl hp hnd ⊢
  refine Con.walk good d0G (by simp) ?_
  unfold c0O
  simp only [stD,stK]
  simp only [a0I]
  repeat' (with_reducible first|refine Wx.h ?_|refine Wb.h fun K hK=>?_|(refine hK _ ?_;clear hK K)|refine Wq.h ?_ ?_<;>intro h|((fail_if_success refine Wz.h ?_);simp (disch:=omega) only [↓LD,LA,a0A,seval,LSt]))
  all_goals try (refine end1 rfl rfl (by kernel_rfl) .nil ⟨congrArg D.f ?_,rfl⟩;first|(rw [a0a,if_pos (.inl (by assumption))];try rfl)|(rw [a0a,if_pos (.inr (by assumption))];try rfl))
  have hr:a0a ⟨id,ver,time,closed,cancel,defs,nodes,tms,sgs⟩=(rdy (a0l nodes) 0 defs).filter (wtB nodes):=by
    rw [a0a,if_neg];simp_all
  refine HS.view (View.void 4) ?_
  refine HS.view (View.slot 3 (.sl 2 0 0) (.no (by show 2<2+1;omega))) ?_
  refine HS.loopG [1,3,4] (fun i:Nat=>⟨frm 60 [(1,.pt 1 0),(3,.sl 2 0 i),(4,D.int i)],[rN nodes]++[.box 65 (stK 0 ⟨id,ver,time,closed,cancel,defs,nodes,tms,sgs⟩),.data 4 ((a0l (nodes.take i)).map bF)],[]⟩)
    (fun i=>i≤nodes.length) (fun i=>nodes.length-i) 0 (by kernel_rfl) (Nat.zero_le _) ?_
  rintro i hi
  by_cases hil:i<nodes.length
  · have hdl:=v0O hi
    have hds:=r0m hil
    repeat' (with_reducible first|refine Wx.h ?_|refine Wb.h fun K hK=>?_|(refine hK _ ?_;clear hK K)|refine Wq.h ?_ ?_<;>intro h<;>try (exfalso;omega)|((fail_if_success refine Wz.h ?_);first|simp (disch:=omega) only [↓LD,LA,a0A,seval,LSt,stF,stK,rN,b0z,a0h,Nn.cs,List.length_map,hdl,List.cons_append,List.nil_append]|(refine And.intro ?_ ?_;omega)|fail))
    all_goals
      first|rw [decide_eq_true (by assumption)] at hds|rw [decide_eq_false (by assumption)] at hds
      rw [f1j,hds]
      exact Next.mk (i+1) (by kernel_rfl) (by omega) (by omega)
  obtain rfl:i=nodes.length:=by omega
  rw [List.take_length]
  have hdl:(a0l nodes).length=nodes.length:=by simp [a0l]
  refine HS.view (View.fzd 3 (k:=1) (b:=1) (z:=[.bool false]) rfl rfl (by kernel_rfl) (by simp [a0l]) (by omega) (by omega)) ?_
  rw [show F.s ((a0l nodes).map bF) nodes.length=fB (a0l nodes) by rw [fB,hdl]]
  repeat' (with_reducible first|refine Wx.h ?_|refine Wb.h fun K hK=>?_|(refine hK _ ?_;clear hK K)|refine Wq.h ?_ ?_<;>intro h<;>try (exfalso;omega)|((fail_if_success refine Wz.h ?_);simp (disch:=omega) only [↓LD,LA,a0A,seval,LSt,stF,stK,List.cons_append,List.nil_append]))
  refine a0C (i0j defs (a0l nodes) hf hp (by rw [hdl];omega)) rfl rfl rfl ?_
  repeat' (with_reducible first|refine Wx.h ?_|refine Wb.h fun K hK=>?_|(refine hK _ ?_;clear hK K)|((fail_if_success refine Wz.h ?_);simp (disch:=omega) only [↓LD,LA,a0A,seval,LSt,stF,stK,List.cons_append,List.nil_append]))
  have hpos:∀ x∈rdy (a0l nodes) 0 defs,0≤x∧x<nodes.length:=fun x hx=>⟨by have:=g0S hx;omega,by have:=w0S hx;omega⟩
  have hlen:(rdy (a0l nodes) 0 defs).length<1000:=Nat.lt_of_le_of_lt (i0C 0 defs) hf.1
  generalize rdy (a0l nodes) 0 defs=L at *
  refine HS.view (View.void 3) ?_
  refine HS.view (View.slot 5 (.sl 3 0 0) (.no (by show 3<3+1;omega))) ?_
  refine HS.loopG [1,5,6,7] (fun x:Nat × List Int=>⟨frm 60 [(1,.pt 1 0),(5,.sl 2 0 x.2.length),(6,.f (fI L)),(7,D.int x.1)],[rN nodes]++[.box 65 (stK 0 ⟨id,ver,time,closed,cancel,defs,nodes,tms,sgs⟩),.data 3 (x.2.map iF)],[]⟩)
    (fun x=>x.1≤L.length∧x.2.length≤x.1∧L.filter (wtB nodes)=x.2++(L.drop x.1).filter (wtB nodes)) (fun x=>L.length-x.1) (0,[]) (by kernel_rfl) ⟨Nat.zero_le _,Nat.le_refl _,rfl⟩ ?_
  rintro ⟨i,out⟩ ⟨hi,ho,hF⟩
  dsimp only at hi ho hF
  by_cases hil:i<L.length
  · obtain ⟨hp1,hp2⟩:=hpos _ (a0K hil)
    rw [a0G hil] at hF
    repeat' (with_reducible first|refine Wx.h ?_|refine We.h fun K hK=>?_|(refine hK _ _ _ _ ?_;clear hK K;try clear hM M)|refine Wb.h fun K hK=>?_|(refine hK _ ?_;clear hK K)|(refine Wy.h ?_ ?_;kernel_rfl)|refine Wq.h ?_ ?_<;>intro h<;>try (exfalso;omega)|((fail_if_success refine Wz.h ?_);first|simp (disch:=omega) only [↓LD,LA,a0A,seval,LSt,stF,stK,rN,b0z,a0h,Nn.cs,List.cons_append,List.nil_append]|(refine And.intro ?_ ?_;omega)|fail))
    all_goals first
      | (have hw:wtB nodes (gt L i)=true:=by unfold wtB;rw [decide_eq_true hp2,decide_eq_true (by assumption)];try rfl
         rw [List.filter_cons_of_pos hw] at hF
         rw [show out.length+1=(out++[gt L i]).length by simp]
         exact Next.mk (i+1,out++[gt L i]) (by kernel_rfl) ⟨by dsimp only;omega,by simp;omega,by dsimp only;rw [hF];simp⟩ (by dsimp only;omega))
      | (have hw:¬ wtB nodes (gt L i)=true:=by unfold wtB;rw [decide_eq_false (p:=(gt nodes (gt L i).toNat).st=0) (by assumption)];simp
         rw [List.filter_cons_of_neg hw] at hF
         exact Next.mk (i+1,out) (by kernel_rfl) ⟨by dsimp only;omega,by dsimp only;omega,hF⟩ (by dsimp only;omega))
  · repeat' (with_reducible first|refine Wx.h ?_|refine Wb.h fun K hK=>?_|(refine hK _ ?_;clear hK K)|refine Wq.h ?_ ?_<;>intro h<;>try (exfalso;omega)|((fail_if_success refine Wz.h ?_);simp (disch:=omega) only [↓LD,LA,a0A,seval,stF,stK,List.cons_append,List.nil_append]))
    refine end1 rfl rfl (by kernel_rfl) (.sl (T:=3) (xs:=out.map iF) rfl (fun e=>by rw [List.eq_nil_of_length_eq_zero e];try rfl)) ⟨?_,rfl⟩
    rw [hr,hF,show L.drop i=[] from List.drop_of_length_le (by omega),List.filter_nil,List.append_nil];try rfl
instance {id ver time closed:Int}{cancel:Bool}{defs:List Nd}{nodes:List Nn}{tms:List Tm}{sgs:List Sg}{k:Int}{H:List Row}{K:D→List Row→Prop}:Wa (a0P Tryz.prog (.fn 107 []) [.ag [.f (.v (.int .i64 id)),.f (.v (.int .i64 ver)),.f (.v (.int .i64 time)),.f (.v (.int .i64 closed)),.f (.v (.bool cancel)),.f (fG defs),.f (fNn nodes),.f (fTm tms),.f (fSg sgs)],.f (.v (.int .i64 k))] H K)
  (nodes.length≤1000000∧K (.f (.v (.int .i64 (cntL nodes k)))) H):=⟨fun h=>a0C (d0S ⟨id,ver,time,closed,cancel,defs,nodes,tms,sgs⟩ k h.1) rfl rfl rfl h.2⟩
instance {id ver time closed:Int}{cancel:Bool}{defs:List Nd}{nodes:List Nn}{tms:List Tm}{sgs:List Sg}{k:Int}{H:List Row}{K:Bool→D→List Row→Prop}:Wa (a0k Tryz.prog (.fn 107 []) [.ag [.f (.v (.int .i64 id)),.f (.v (.int .i64 ver)),.f (.v (.int .i64 time)),.f (.v (.int .i64 closed)),.f (.v (.bool cancel)),.f (fG defs),.f (fNn nodes),.f (fTm tms),.f (fSg sgs)],.f (.v (.int .i64 k))] H K)
  (nodes.length≤1000000∧K true (.f (.v (.int .i64 (cntL nodes k)))) H):=⟨fun h=>a0M (d0S ⟨id,ver,time,closed,cancel,defs,nodes,tms,sgs⟩ k h.1) rfl rfl rfl h.2⟩
set_option maxRecDepth 100000 in
theorem q0G (s:S12)(hl:s.nodes.length≤1000000):Con Tryz.prog 157 [stD s] [] fun r H'=>r=D.int (a0Z s)∧H'=[]:=by
 obtain ⟨id,ver,time,closed,cancel,defs,nodes,tms,sgs⟩:=s
 dsimp only at hl
 refine Con.walk good o0A (by simp) ?_
 unfold g0v
 simp only [a0I,stD]
 cases cancel
 all_goals
  repeat' (with_reducible first|refine Wx.h ?_|refine We.h fun K hK=>?_|(refine hK _ _ _ _ ?_;clear hK K;try clear hM M)|refine Wb.h fun K hK=>?_|(refine hK _ ?_;clear hK K)|(refine Wy.h ?_ ?_;kernel_rfl)|refine Wq.h ?_ ?_<;>intro h|((fail_if_success refine Wz.h ?_);first|simp (disch:=omega) only [↓LD,LA,a0A,seval,LSt]|(refine And.intro ?_ ?_;omega)|fail))
 all_goals (refine end1 rfl rfl (by kernel_rfl) .f ⟨congrArg D.int ?_,rfl⟩;simp only [a0Z])
 all_goals (repeat' split)<;>(try simp only [true_and,false_and,Bool.false_eq_true,not_false_eq_true,not_true_eq_false,ne_eq] at *)<;>omega
theorem i0r {P:Program}{H:List Row}:∀ ys:List F,a0U P H (ys.map .f)=some (ys,[])
 | []=>rfl
 | y :: ys=>by simp only [List.map_cons,a0U,b0T,i0r ys,List.append_nil]
theorem a1g {P:Program}{H:List Row}{n r off:Nat}{ys:List F}{U:TypeId}{xs:List F}(hn:ys.length=n)(h0:0<n):c0k P H n r off (.ag (ys.map .f)) (some (.data U xs))=if off+n≤xs.length then (match H[r]? with|some (.data V ws)=>some (H.set r (.data V (splice ws off ys)))|_=>none) else none:=by
 have h1:(D.ag (ys.map .f)).cells=ys.map .f:=rfl
 unfold c0k
 dsimp only
 rw [h1,List.length_map,i0r]
 by_cases h:off+n≤xs.length
 ·rw [if_pos ⟨rfl,hn,h,h0⟩,if_pos h];try rfl
 ·rw [if_neg (fun e=>h e.2.2.1),if_neg h]
theorem f0c {P:Program}{H:List Row}{r off:Nat}{a b c d:F}{U:TypeId}{xs:List F}:c0k P H 4 r off (.ag [.f a,.f b,.f c,.f d]) (some (.data U xs))=if off+4≤xs.length then (match H[r]? with|some (.data V ws)=>some (H.set r (.data V (splice ws off [a,b,c,d])))|_=>none) else none:=a1g (ys:=[a,b,c,d]) rfl (by omega)
theorem h0n {α:Type}{cs:α→List F}{n:Nat}(hn:∀ x,(cs x).length=n){y:α}:∀ {l:List α} {k:Nat},k<l.length→splice (l.flatMap cs) (k*n) (cs y)=(l.set k y).flatMap cs
 | [],k,hk=>by simp at hk
 | a :: l,0,_=>by
  unfold splice
  rw [List.set_cons_zero,List.flatMap_cons,List.flatMap_cons,Nat.zero_mul,Nat.zero_add,List.take_zero,List.nil_append,hn,List.drop_left' (hn a)]
 | a :: l,k+1,hk=>by
  have ih:=h0n hn (y:=y) (l:=l) (k:=k) (by simpa using hk)
  unfold splice at ih ⊢
  rw [List.set_cons_succ,List.flatMap_cons,List.flatMap_cons,←ih,Nat.add_mul,Nat.one_mul,Nat.add_comm (k*n) n,Nat.add_assoc,←List.append_assoc,←List.append_assoc]
  rw [←hn a,List.take_length_add_append,←List.drop_drop,List.drop_left,List.append_assoc,List.append_assoc]
theorem d0o {l:List Nn}{k:Nat}{a b c:Int}{d:Bs}(hk:k<l.length):splice (l.flatMap Nn.cs) (k*4) [.v (.int .i64 a),.v (.int .i64 b),.v (.int .i64 c),fY d]=(l.set k ⟨a,b,c,d⟩).flatMap Nn.cs:=h0n d0U (y:=⟨a,b,c,d⟩) hk
theorem w0w {xs ys zs:List F}{off:Nat}{R:F→F→Prop}(hr:∀ x,R x x)(hl:ys.length=zs.length)(h:∀ (i:Nat) (x y:F),ys[i]?=some x→zs[i]?=some y→R x y) :
  ∀ (i:Nat) (x y:F),(splice xs off ys)[i]?=some x→(splice xs off zs)[i]?=some y→R x y:=by
 intro i x y hx hy
 unfold splice at hx hy
 rw [hl,List.append_assoc] at hx
 rw [List.append_assoc] at hy
 by_cases h1:i<(xs.take off).length
 ·rw [List.getElem?_append_left h1] at hx hy
  rw [hx] at hy;cases hy;exact hr _
 ·rw [List.getElem?_append_right (by omega)] at hx hy
  by_cases h2:i-(xs.take off).length<zs.length
  ·rw [List.getElem?_append_left (by omega)] at hx
   rw [List.getElem?_append_left h2] at hy
   exact h _ _ _ hx hy
  ·rw [List.getElem?_append_right (by omega)] at hx hy
   rw [hl,] at hx
   rw [hx] at hy;cases hy;exact hr _
theorem k0n {l:List Nn}{k:Nat}{a b c:Int}(hk:k<l.length):(((l.set k ⟨a,b,c,[]⟩).flatMap Nn.cs).length=(splice (l.flatMap Nn.cs) (k*4) [.v (.int .i64 a),.v (.int .i64 b),.v (.int .i64 c),.v (.slice none 0 0)]).length) ∧
  ∀ (i:Nat) (x y:F),(splice (l.flatMap Nn.cs) (k*4) [.v (.int .i64 a),.v (.int .i64 b),.v (.int .i64 c),.v (.slice none 0 0)])[i]?=some x→((l.set k ⟨a,b,c,[]⟩).flatMap Nn.cs)[i]?=some y→x=y∨(x = .v (.slice none 0 0)∧y = .s [] 0):=by
 rw [←d0o hk]
 refine ⟨by simp [splice],w0w (fun _=>.inl rfl) rfl ?_⟩
 intro i x y hx hy
 rcases i with _|_|_|_|i
 all_goals (simp at hx hy;try (subst hx;subst hy;first|exact .inl rfl|exact .inr ⟨rfl,rfl⟩))
def b0c (s:S12)(e:Ev):Int × S12 :=
  if (s.nodes.length:Int)≤e.node then (1,s)
  else if e.ty=2 then
    (if e.node ∉ a0a s∨e.n≠(gt s.nodes e.node.toNat).tr+1 then (4,s)
     else (0,{ s with nodes:=s.nodes.set e.node.toNat ⟨1,e.n,e.time+(gt s.defs e.node.toNat).le,[]⟩ }))
  else if (gt s.nodes e.node.toNat).st≠1∨e.n≠(gt s.nodes e.node.toNat).tr then (4,s)
  else (0,{ s with nodes:=s.nodes.set e.node.toNat (if e.ty=3 then { gt s.nodes e.node.toNat with st:=2,due:=0,data:=e.data } else if (gt s.nodes e.node.toNat).tr=(gt s.defs e.node.toNat).tr then { gt s.nodes e.node.toNat with st:=3,due:=0 } else { gt s.nodes e.node.toNat with st:=0,due:=0 }) })
set_option maxRecDepth 100000 in
theorem c0g (s:S12)(e:Ev)(hn:Num s e)(h0:0≤e.node)(hf:Fit s.defs)(hp:Pos s.defs)(hl:s.nodes.length≤1000000)(hnd:s.nodes.length=s.defs.length) :
  Con Tryz.prog 105 [.pt 0 0,evD e] [.box 65 (stK 1 s),rN s.nodes] fun r H'=>r=D.int (b0c s e).1∧H'=[.box 65 (stK 1 (b0c s e).2),rN (b0c s e).2.nodes]:=by
 obtain ⟨id,ver,time,closed,cancel,defs,nodes,tms,sgs⟩:=s
 obtain ⟨hn1,hn2,hn3⟩:=hn
 dsimp only at hn1 hn2 hn3 hf hl hp hnd
 have hfl:=hf.1
 suffices hh:∀ Q:D→List Row→Prop,(∀ r H',r=D.int (b0c ⟨id,ver,time,closed,cancel,defs,nodes,tms,sgs⟩ e).1→H'=[.box 65 (stK 1 (b0c ⟨id,ver,time,closed,cancel,defs,nodes,tms,sgs⟩ e).2),rN (b0c ⟨id,ver,time,closed,cancel,defs,nodes,tms,sgs⟩ e).2.nodes]→Q r H')→Con Tryz.prog 105 [.pt 0 0,evD e] [.box 65 (stK 1 ⟨id,ver,time,closed,cancel,defs,nodes,tms,sgs⟩),rN nodes] Q from hh _ fun _ _ h1 h2=>⟨h1,h2⟩
 intro Q hQ
 refine Con.walk good h0R (by simp) ?_
 unfold e0K
 simp only [a0I,evD,stK,rN]
 repeat' (with_reducible first|refine Wx.h ?_|refine We.h fun K hK=>?_|(refine hK _ _ _ _ ?_;clear hK K;try clear hM M)|refine Wb.h fun K hK=>?_|(refine hK _ ?_;clear hK K)|(refine Wy.h ?_ ?_;kernel_rfl)|refine Wq.h ?_ ?_<;>intro h|((fail_if_success refine Wz.h ?_);first|simp (disch:=omega) only [↓LD,LA,a0A,seval,LSt,c0s,e0R,Nn.cs,a0h,f0c,d0o,b0Y,c0U,List.length_set]|(refine And.intro ?_ ?_;omega)|fail))
 ·have hb:b0c ⟨id,ver,time,closed,cancel,defs,nodes,tms,sgs⟩ e=(1,⟨id,ver,time,closed,cancel,defs,nodes,tms,sgs⟩):=by
   unfold b0c;rw [if_pos (by assumption)]
  rw [hb] at hQ
  exact end1 rfl rfl (by kernel_rfl) .f (hQ _ _ rfl rfl)
 ·refine a0J (g0C ⟨id,ver,time,closed,cancel,defs,nodes,tms,sgs⟩ hf hp hl hnd) [1] (by kernel_rfl) rfl rfl ?_
  rintro _ _ ⟨rfl,rfl⟩
  simp (disch:=omega) only [↓LD,LA,a0A,seval,ren,List.getElem?_nil,stK,rN]
  have hb:b0c ⟨id,ver,time,closed,cancel,defs,nodes,tms,sgs⟩ e=(if e.node ∉ a0a ⟨id,ver,time,closed,cancel,defs,nodes,tms,sgs⟩∨e.n≠(gt nodes e.node.toNat).tr+1 then (4,⟨id,ver,time,closed,cancel,defs,nodes,tms,sgs⟩) else (0,⟨id,ver,time,closed,cancel,defs,nodes.set e.node.toNat ⟨1,e.n,e.time+(gt defs e.node.toNat).le,[]⟩,tms,sgs⟩)):=by
   unfold b0c;rw [if_neg (by assumption),if_pos (by assumption)]
  rw [hb] at hQ
  clear hb
  have hrl:(a0a ⟨id,ver,time,closed,cancel,defs,nodes,tms,sgs⟩).length<1000:=by
   unfold a0a;split
   ·simp
   ·exact Nat.lt_of_le_of_lt (Nat.le_trans (List.length_filter_le _ _) (i0C 0 defs)) hf.1
  have hnl:e.node.toNat<nodes.length:=by omega
  have hdl:e.node.toNat<defs.length:=by omega
  have hb1:=hn2 _ (a0K hdl)
  have hb2:=hn3 _ (a0K hnl)
  generalize a0a ⟨id,ver,time,closed,cancel,defs,nodes,tms,sgs⟩=L at *
  repeat' (with_reducible first|refine Wx.h ?_|refine Wb.h fun K hK=>?_|(refine hK _ ?_;clear hK K)|((fail_if_success refine Wz.h ?_);simp (disch:=omega) only [↓LD,LA,a0A,seval,LSt,c0s,e0R,Nn.cs,a0h,f0c,d0o,b0Q,c0U,List.length_set]))
  refine HS.loopG [0,3,5,6,7,8] (fun i:Nat=>⟨frm 122 [(0,.pt 0 0),(3,.pt 2 0),(5,.pt 3 0),(6,D.bool (decide (e.node∈L.take i))),(7,.f (fI L)),(8,D.int i)],[.box 65 [D.int id,D.int ver,D.int time,D.int closed,D.bool cancel,.f (fG defs),.sl 1 0 nodes.length,.f (fTm tms),.f (fSg sgs)],.data 158 (nodes.flatMap Nn.cs),evB e,.box 158 ((gt nodes e.node.toNat).cs.map .f)],[]⟩)
   (fun i=>i≤L.length) (fun i=>L.length-i) 0 (by kernel_rfl) (Nat.zero_le _) ?_
  rintro i hi
  by_cases hil:i<L.length
  ·have hst:decide (e.node∈L.take (i+1))=(decide (e.node∈L.take i)||decide (gt L i=e.node)):=by
    rw [List.take_succ_eq_append_getElem hil,←b0P hil]
    simp [eq_comm]
   cases hc:decide (e.node∈L.take i)
   all_goals
    rw [hc] at hst
    repeat' (with_reducible first|refine Wx.h ?_|refine We.h fun K hK=>?_|refine Wd.h fun K M hK hM=>?_|(refine hK _ _ _ _ ?_;clear hK K;try clear hM M)|(refine hM ?_;clear hM M;try clear hK K)|refine Wb.h fun K hK=>?_|(refine hK _ ?_;clear hK K)|(refine Wy.h ?_ ?_;kernel_rfl)|refine Wq.h ?_ ?_<;>intro h<;>try (exfalso;omega)|((fail_if_success refine Wz.h ?_);first|simp (disch:=omega) only [↓LD,LA,a0A,seval,evB,Nn.cs,List.map_cons,List.map_nil]|(refine And.intro ?_ ?_;omega)|fail))
    all_goals exact Next.mk (i+1) (by rw [hst];(try simp only [decide_eq_true (show gt L i=e.node by assumption)]);(try simp only [decide_eq_false (show ¬ gt L i=e.node by assumption)]);kernel_rfl) (by omega) (by omega)
  have hbt:L.take i=L:=List.take_of_length_le (by omega)
  rw [hbt]
  by_cases hm:e.node∈L
  rotate_left
  ·rw [decide_eq_false hm]
   repeat' (with_reducible first|refine Wx.h ?_|refine Wb.h fun K hK=>?_|(refine hK _ ?_;clear hK K)|refine Wq.h ?_ ?_<;>intro h<;>try (exfalso;omega)|((fail_if_success refine Wz.h ?_);simp (disch:=omega) only [↓LD,LA,a0A,seval,evB,Nn.cs,List.map_cons,List.map_nil,LSt,c0s,e0R,Nn.cs,a0h,f0c,d0o,b0Q,c0U,List.length_set]))
   rw [if_pos (.inl hm)] at hQ
   exact end1 rfl rfl (by kernel_rfl) .f (hQ _ _ rfl rfl)
  ·rw [decide_eq_true hm]
   repeat' (with_reducible first|refine Wa.h ?_|refine Ws.h ?_|refine We.h fun K hK=>?_|(refine hK _ _ _ _ ?_;clear hK K;try clear hM M)|refine Wb.h fun K hK=>?_|(refine hK _ ?_;clear hK K)|(refine Wy.h ?_ ?_;kernel_rfl)|refine Wq.h ?_ ?_<;>intro h<;>try (exfalso;omega)|((fail_if_success refine Wz.h ?_);first|simp (disch:=omega) only [↓LD,LA,a0A,seval,evB,Nn.cs,List.map_cons,List.map_nil,LSt,c0s,e0R,Nn.cs,a0h,f0c,d0o,b0Q,c0U,List.length_set]|(refine And.intro ?_ ?_;omega)|fail))
   ·refine HS.view (View.wkd 1 ((nodes.set e.node.toNat ⟨1,e.n,e.time+(gt defs e.node.toNat).le,[]⟩).flatMap Nn.cs) rfl (k0n hnl).1 (k0n hnl).2) ?_
    repeat' (with_reducible first|refine Wx.h ?_|fail)
    rw [if_neg (by simp_all)] at hQ
    refine end1 rfl rfl (by kernel_rfl) .f (hQ _ _ rfl ?_)
    simp only [stK,rN,List.length_set]
    rfl
   ·repeat' (with_reducible first|refine Wx.h ?_|fail)
    rw [if_pos (.inr (by assumption))] at hQ
    exact end1 rfl rfl (by kernel_rfl) .f (hQ _ _ rfl rfl)
 ·have hb:b0c ⟨id,ver,time,closed,cancel,defs,nodes,tms,sgs⟩ e=(0,⟨id,ver,time,closed,cancel,defs,nodes.set e.node.toNat { gt nodes e.node.toNat with st:=2,due:=0,data:=e.data },tms,sgs⟩):=by
   unfold b0c;rw [if_neg (show ¬ (nodes.length:Int)≤e.node by assumption),if_neg (by assumption),if_neg (by simp_all),if_pos (by assumption)]
  rw [hb] at hQ
  refine end1 rfl rfl (by kernel_rfl) .f (hQ _ _ rfl ?_)
  simp only [stK,rN,List.length_set]
  rfl
 ·have hb:b0c ⟨id,ver,time,closed,cancel,defs,nodes,tms,sgs⟩ e=(0,⟨id,ver,time,closed,cancel,defs,nodes.set e.node.toNat { gt nodes e.node.toNat with st:=3,due:=0 },tms,sgs⟩):=by
   unfold b0c;rw [if_neg (show ¬ (nodes.length:Int)≤e.node by assumption),if_neg (by assumption),if_neg (by simp_all),if_neg (by assumption),if_pos (by assumption)]
  rw [hb] at hQ
  refine end1 rfl rfl (by kernel_rfl) .f (hQ _ _ rfl ?_)
  simp only [stK,rN,List.length_set]
  rfl
 ·have hb:b0c ⟨id,ver,time,closed,cancel,defs,nodes,tms,sgs⟩ e=(0,⟨id,ver,time,closed,cancel,defs,nodes.set e.node.toNat { gt nodes e.node.toNat with st:=0,due:=0 },tms,sgs⟩):=by
   unfold b0c;rw [if_neg (show ¬ (nodes.length:Int)≤e.node by assumption),if_neg (by assumption),if_neg (by simp_all),if_neg (by assumption),if_neg (by assumption)]
  rw [hb] at hQ
  refine end1 rfl rfl (by kernel_rfl) .f (hQ _ _ rfl ?_)
  simp only [stK,rN,List.length_set]
  rfl
 ·have hb:b0c ⟨id,ver,time,closed,cancel,defs,nodes,tms,sgs⟩ e=(4,⟨id,ver,time,closed,cancel,defs,nodes,tms,sgs⟩):=by
   unfold b0c;rw [if_neg (show ¬ (nodes.length:Int)≤e.node by assumption),if_neg (by assumption),if_pos (.inr (by assumption))]
  rw [hb] at hQ
  exact end1 rfl rfl (by kernel_rfl) .f (hQ _ _ rfl rfl)
 ·have hb:b0c ⟨id,ver,time,closed,cancel,defs,nodes,tms,sgs⟩ e=(4,⟨id,ver,time,closed,cancel,defs,nodes,tms,sgs⟩):=by
   unfold b0c;rw [if_neg (show ¬ (nodes.length:Int)≤e.node by assumption),if_neg (by assumption),if_pos (.inl (by assumption))]
  rw [hb] at hQ
  exact end1 rfl rfl (by kernel_rfl) .f (hQ _ _ rfl rfl)
theorem b0w {id ver time closed:Int}{cancel:Bool}{defs:List Nd}{nodes:List Nn}{tms:List Tm}{sgs:List Sg}{r:Nat}{H:List Row}(h:H[r]?=some (.data 158 (nodes.flatMap Nn.cs))):Vw H (.ag [.f (.v (.int .i64 id)),.f (.v (.int .i64 ver)),.f (.v (.int .i64 time)),.f (.v (.int .i64 closed)),.f (.v (.bool cancel)),.f (fG defs),.sl r 0 nodes.length,.f (fTm tms),.f (fSg sgs)]) (stD ⟨id,ver,time,closed,cancel,defs,nodes,tms,sgs⟩) :=
 .ags (.cons .f (.cons .f (.cons .f (.cons .f (.cons .f (.cons .f (.cons (.sl (xs:=nodes.flatMap Nn.cs) h (fun e=>by rw [List.eq_nil_of_length_eq_zero e];try rfl)) (.cons .f (.cons .f .nil)))))))))
instance {id ver time closed:Int}{cancel:Bool}{defs:List Nd}{nodes:List Nn}{tms:List Tm}{sgs:List Sg}{r:Nat}{H:List Row}{nm:Bs}{K:D→List Row→Prop}:Wa (a0P Tryz.prog (.fn 30 []) [.ag [.f (.v (.int .i64 id)),.f (.v (.int .i64 ver)),.f (.v (.int .i64 time)),.f (.v (.int .i64 closed)),.f (.v (.bool cancel)),.f (fG defs),.sl r 0 nodes.length,.f (fTm tms),.f (fSg sgs)],.f (.v (.string (BB nm)))] H K)
  (H[r]?=some (.data 158 (nodes.flatMap Nn.cs))∧sgs.length≤1000000∧K (.f (.v (.bool (f0K sgs nm)))) H):=⟨fun h=>by
 refine a0X (o0p ⟨id,ver,time,closed,cancel,defs,nodes,tms,sgs⟩ nm h.2.1) (.cons (b0w h.1) (.cons .f .nil)) ?_ ?_
 ·rintro _ _ ⟨rfl,rfl⟩
  exact ⟨.f .v,by simp⟩
 ·rintro _ _ ⟨rfl,rfl⟩
  show K (.f (.v (.bool (f0K sgs nm)))) (_++[])
  rw [List.append_nil];exact h.2.2⟩
instance {id ver time closed:Int}{cancel:Bool}{defs:List Nd}{nodes:List Nn}{tms:List Tm}{sgs:List Sg}{r:Nat}{H:List Row}{nm:Int}{K:D→List Row→Prop}:Wa (a0P Tryz.prog (.fn 107 []) [.ag [.f (.v (.int .i64 id)),.f (.v (.int .i64 ver)),.f (.v (.int .i64 time)),.f (.v (.int .i64 closed)),.f (.v (.bool cancel)),.f (fG defs),.sl r 0 nodes.length,.f (fTm tms),.f (fSg sgs)],.f (.v (.int .i64 nm))] H K)
  (H[r]?=some (.data 158 (nodes.flatMap Nn.cs))∧nodes.length≤1000000∧K (.f (.v (.int .i64 (cntL nodes nm)))) H):=⟨fun h=>by
 refine a0X (d0S ⟨id,ver,time,closed,cancel,defs,nodes,tms,sgs⟩ nm h.2.1) (.cons (b0w h.1) (.cons .f .nil)) ?_ ?_
 ·rintro _ _ ⟨rfl,rfl⟩
  exact ⟨.f .v,by simp⟩
 ·rintro _ _ ⟨rfl,rfl⟩
  show K (.f (.v (.int .i64 (cntL nodes nm)))) (_++[])
  rw [List.append_nil];exact h.2.2⟩
instance {id ver time closed:Int}{cancel:Bool}{defs:List Nd}{nodes:List Nn}{tms:List Tm}{sgs:List Sg}{r:Nat}{H:List Row}{nm:Bs}{K:Bool→D→List Row→Prop}:Wa (a0k Tryz.prog (.fn 148 []) [.ag [.f (.v (.int .i64 id)),.f (.v (.int .i64 ver)),.f (.v (.int .i64 time)),.f (.v (.int .i64 closed)),.f (.v (.bool cancel)),.f (fG defs),.sl r 0 nodes.length,.f (fTm tms),.f (fSg sgs)],.f (.v (.string (BB nm)))] H K)
  (H[r]?=some (.data 158 (nodes.flatMap Nn.cs))∧tms.length≤1000000∧K false (.f (.v (.int .i64 (tmI tms nm)))) H):=⟨fun h=>by
 refine c0l (s0z ⟨id,ver,time,closed,cancel,defs,nodes,tms,sgs⟩ nm h.2.1) (.cons (b0w h.1) (.cons .f .nil)) ⟨.f .v,by simp⟩ ?_
 show K false (.f (.v (.int .i64 (tmI tms nm)))) (_++[])
 rw [List.append_nil];exact h.2.2⟩
instance {id ver time closed:Int}{cancel:Bool}{defs:List Nd}{nodes:List Nn}{tms:List Tm}{sgs:List Sg}{r:Nat}{H:List Row}{nm:Int}{K:Bool→D→List Row→Prop}:Wa (a0k Tryz.prog (.fn 107 []) [.ag [.f (.v (.int .i64 id)),.f (.v (.int .i64 ver)),.f (.v (.int .i64 time)),.f (.v (.int .i64 closed)),.f (.v (.bool cancel)),.f (fG defs),.sl r 0 nodes.length,.f (fTm tms),.f (fSg sgs)],.f (.v (.int .i64 nm))] H K)
  (H[r]?=some (.data 158 (nodes.flatMap Nn.cs))∧nodes.length≤1000000∧K false (.f (.v (.int .i64 (cntL nodes nm)))) H):=⟨fun h=>by
 refine c0l (d0S ⟨id,ver,time,closed,cancel,defs,nodes,tms,sgs⟩ nm h.2.1) (.cons (b0w h.1) (.cons .f .nil)) ⟨.f .v,by simp⟩ ?_
 show K false (.f (.v (.int .i64 (cntL nodes nm)))) (_++[])
 rw [List.append_nil];exact h.2.2⟩
def stKT (a b:Nat)(s:S12):List D:=[D.int s.id,D.int s.ver,D.int s.time,D.int s.closed,D.bool s.cancel,.f (fG s.defs),.sl a 0 s.nodes.length,.sl b 0 s.tms.length,.f (fSg s.sgs)]
def a0e (s:S12)(e:Ev):Int × S12:=if e.ty=5 then armL s e else c0S s e
set_option maxRecDepth 100000 in
theorem d0g (s:S12)(e:Ev)(hl:s.tms.length≤1000000)(ht:0≤e.time∧e.time≤1099511627776)(hn:e.ty=5→0≤e.n∧e.n≤1048576) :
    Con Tryz.prog 106 [.pt 0 0,evD e] [.box 65 (stK 1 s),rN s.nodes] fun r H'=>r=D.int (a0e s e).1 ∧
      (((a0e s e).1≠0∧H'=[.box 65 (stK 1 s),rN s.nodes])∨((a0e s e).1=0∧H'=[.box 65 (stKT 1 2 (a0e s e).2),rN s.nodes,rT (a0e s e).2.tms])):=by
  obtain ⟨id,ver,time,closed,cancel,defs,nodes,tms,sgs⟩:=s
  dsimp only at hl
  suffices hh:∀ Q:D→List Row→Prop,(∀ r H',r=D.int (a0e ⟨id,ver,time,closed,cancel,defs,nodes,tms,sgs⟩ e).1→(((a0e ⟨id,ver,time,closed,cancel,defs,nodes,tms,sgs⟩ e).1≠0∧H'=[.box 65 (stK 1 ⟨id,ver,time,closed,cancel,defs,nodes,tms,sgs⟩),rN nodes])∨((a0e ⟨id,ver,time,closed,cancel,defs,nodes,tms,sgs⟩ e).1=0∧H'=[.box 65 (stKT 1 2 (a0e ⟨id,ver,time,closed,cancel,defs,nodes,tms,sgs⟩ e).2),rN nodes,rT (a0e ⟨id,ver,time,closed,cancel,defs,nodes,tms,sgs⟩ e).2.tms]))→Q r H')→Con Tryz.prog 106 [.pt 0 0,evD e] [.box 65 (stK 1 ⟨id,ver,time,closed,cancel,defs,nodes,tms,sgs⟩),rN nodes] Q from hh _ fun _ _ h1 h2=>⟨h1,h2⟩
  intro Q hQ
  have hlt:=v0y tms e.name
  refine Con.walk good g0M (by simp) ?_
  unfold d0j
  simp only [a0I,evD,stK,rN]
  repeat' (with_reducible first|refine Wx.h ?_|refine We.h fun K hK=>?_|refine Wd.h fun K M hK hM=>?_|(refine hK _ _ _ _ ?_;clear hK K;try clear hM M)|(refine hM ?_;clear hM M;try clear hK K)|refine Wb.h fun K hK=>?_|(refine hK _ ?_;clear hK K)|(refine wT ?_ ?_;assumption)|(refine wF ?_ ?_;assumption)|(refine Wy.h ?_ ?_;kernel_rfl)|refine Wq.h ?_ ?_<;>intro h<;>try (exfalso;omega)|refine Wu.h ?_ ?_<;>intro h<;>try simp only [h]|((fail_if_success refine Wz.h ?_);first|simp (disch:=omega) only [↓LD,LA,a0A,seval,LSt,g0B,k0C,a1H,e0s,List.length_set,List.getElem?_set_ne,Tm.cs]|(refine And.intro ?_ ?_;omega)|fail))
  all_goals first
    | (have hb:a0e ⟨id,ver,time,closed,cancel,defs,nodes,tms,sgs⟩ e=(13,⟨id,ver,time,closed,cancel,defs,nodes,tms,sgs⟩):=by (unfold a0e armL;rw [if_pos (by assumption),if_pos (by assumption)])
       rw [hb] at hQ
       exact end1 rfl rfl (by kernel_rfl) .f (hQ _ _ rfl (.inl ⟨by simp,rfl⟩)))
    | (have hb:a0e ⟨id,ver,time,closed,cancel,defs,nodes,tms,sgs⟩ e=(4,⟨id,ver,time,closed,cancel,defs,nodes,tms,sgs⟩):=by (unfold a0e armL;rw [if_pos (by assumption),if_neg (by assumption),if_pos (show 8≤tms.length by omega)])
       rw [hb] at hQ
       exact end1 rfl rfl (by kernel_rfl) .f (hQ _ _ rfl (.inl ⟨by simp,rfl⟩)))
    | (have hb:a0e ⟨id,ver,time,closed,cancel,defs,nodes,tms,sgs⟩ e=(4,⟨id,ver,time,closed,cancel,defs,nodes,tms,sgs⟩):=by (unfold a0e c0S;rw [if_neg (by assumption),if_pos (by assumption)])
       rw [hb] at hQ
       exact end1 rfl rfl (by kernel_rfl) .f (hQ _ _ rfl (.inl ⟨by simp,rfl⟩)))
    | (have hb:a0e ⟨id,ver,time,closed,cancel,defs,nodes,tms,sgs⟩ e=(4,⟨id,ver,time,closed,cancel,defs,nodes,tms,sgs⟩):=by (unfold a0e c0S;rw [if_neg (by assumption),if_neg (by assumption),if_pos (.inl (by assumption))])
       rw [hb] at hQ
       exact end1 rfl rfl (by kernel_rfl) .f (hQ _ _ rfl (.inl ⟨by simp,rfl⟩)))
    | (have hb:a0e ⟨id,ver,time,closed,cancel,defs,nodes,tms,sgs⟩ e=(4,⟨id,ver,time,closed,cancel,defs,nodes,tms,sgs⟩):=by (unfold a0e c0S;rw [if_neg (by assumption),if_neg (by assumption),if_pos (.inr (by assumption))])
       rw [hb] at hQ
       exact end1 rfl rfl (by kernel_rfl) .f (hQ _ _ rfl (.inl ⟨by simp,rfl⟩)))
    | (have hz:tms.length=0:=by assumption
       obtain rfl:=List.eq_nil_of_length_eq_zero hz
       have hb:a0e ⟨id,ver,time,closed,cancel,defs,nodes,[],sgs⟩ e=(0,⟨id,ver,time,closed,cancel,defs,nodes,[]++[(⟨e.name,e.time+e.n,false⟩:Tm)],sgs⟩):=by (unfold a0e armL;rw [if_pos (by assumption),if_neg (by assumption),if_neg (by simp)])
       rw [hb] at hQ
       exact endG rfl rfl (ef:=⟨D.int 0,[(0,.box 65 (stKT 1 2 ⟨id,ver,time,closed,cancel,defs,nodes,[]++[(⟨e.name,e.time+e.n,false⟩:Tm)],sgs⟩)),(1,rN nodes)],[rT ([]++[(⟨e.name,e.time+e.n,false⟩:Tm)])]⟩) (by kernel_rfl) (hQ _ _ rfl (.inr ⟨rfl,rfl⟩)))
    | (have hb:a0e ⟨id,ver,time,closed,cancel,defs,nodes,tms,sgs⟩ e=(0,⟨id,ver,time,closed,cancel,defs,nodes,tms++[(⟨e.name,e.time+e.n,false⟩:Tm)],sgs⟩):=by (unfold a0e armL;rw [if_pos (by assumption),if_neg (by assumption),if_neg (show ¬ 8≤tms.length by omega)])
       rw [hb] at hQ
       have e1:tms.flatMap Tm.cs++[F.v (.string (BB e.name)),.v (.int .i64 (e.time+e.n)),.v (.bool false)]=(tms++[(⟨e.name,e.time+e.n,false⟩:Tm)]).flatMap Tm.cs:=by simp [Tm.cs]
       have e2:tms.length+1=(tms++[(⟨e.name,e.time+e.n,false⟩:Tm)]).length:=by simp
       rw [e1,e2]
       exact endG rfl rfl (ef:=⟨D.int 0,[(0,.box 65 (stKT 1 2 ⟨id,ver,time,closed,cancel,defs,nodes,tms++[(⟨e.name,e.time+e.n,false⟩:Tm)],sgs⟩)),(1,rN nodes)],[rT (tms++[(⟨e.name,e.time+e.n,false⟩:Tm)])]⟩) (by kernel_rfl) (hQ _ _ rfl (.inr ⟨rfl,rfl⟩)))
    | (have hb:a0e ⟨id,ver,time,closed,cancel,defs,nodes,tms,sgs⟩ e=(0,⟨id,ver,time,closed,cancel,defs,nodes,tms.set (tmI tms e.name).toNat { gt tms (tmI tms e.name).toNat with fired:=true },sgs⟩):=by (unfold a0e c0S;rw [if_neg (by assumption),if_neg (by assumption),if_neg (by simp_all)])
       rw [hb] at hQ
       have hnl:(tmI tms e.name).toNat<tms.length:=by omega
       rw [b0W (cs:=Tm.cs) s0F (j:=2) (y:={ gt tms (tmI tms e.name).toNat with fired:=true }) (by omega) hnl rfl]
       have e2:tms.length=(tms.set (tmI tms e.name).toNat { gt tms (tmI tms e.name).toNat with fired:=true }).length:=by simp
       generalize hX:(tms.set (tmI tms e.name).toNat { gt tms (tmI tms e.name).toNat with fired:=true })=X at *
       refine endG rfl rfl (ef:=⟨D.int 0,[(0,.box 65 (stKT 1 2 ⟨id,ver,time,closed,cancel,defs,nodes,X,sgs⟩)),(1,rN nodes)],[rT X]⟩) ?_ (hQ _ _ rfl (.inr ⟨rfl,rfl⟩))
       rw [stKT,←e2]
       kernel_rfl)
theorem x0F (v:Int):Con Tryz.prog 152 [D.int v] [] fun r H'=>r=D.int (ownI v)∧H'=[]:=by
 have h1:=Int.tmod_lt_of_pos v (show (0:Int)<10 by omega)
 have h2 : -10<v.tmod 10:=by
  have:=Int.tmod_lt_of_pos (-v) (show (0:Int)<10 by omega)
  rw [Int.neg_tmod] at this;omega
 refine Con.walk good s0d (by simp) ?_
 unfold m0R
 simp only [a0I]
 repeat' (with_reducible first|refine Wx.h ?_|refine Wb.h fun K hK=>?_|(refine hK _ ?_;clear hK K)|((fail_if_success refine Wz.h ?_);simp (disch:=omega) only [↓LD,LA,a0A,seval]))
 refine end1 rfl rfl (by kernel_rfl) .f ⟨rfl,rfl⟩
instance {n:Int}{H:List Row}{K:D→List Row→Prop}:Wa (a0P Tryz.prog (.fn 152 []) [.f (.v (.int .i64 n))] H K) (K (.f (.v (.int .i64 (ownI n)))) H) :=
 ⟨fun h=>a0C (x0F n) rfl rfl rfl h⟩
theorem f0v (v:Int):Con Tryz.prog 114 [D.int v] [] fun r H'=>r=D.bool (verB v)∧H'=[]:=by
 refine Con.walk good f0X (by simp) ?_
 unfold d0N
 simp only [a0I]
 repeat' (with_reducible first|refine Wx.h ?_|refine Wb.h fun K hK=>?_|(refine hK _ ?_;clear hK K)|refine Wq.h ?_ ?_<;>intro h|((fail_if_success refine Wz.h ?_);simp (disch:=omega) only [↓LD,LA,a0A,seval]))
 all_goals (refine end1 rfl rfl (by kernel_rfl) .f ⟨congrArg D.bool ?_,rfl⟩;simp [verB,inI, *])
theorem s0v (l:Bs)(hl:l.length≤1000000):Con Tryz.prog 133 [.f (.v (.string (BB l)))] [] fun r H'=>r=D.bool (d0t l)∧H'=[]:=by
  refine Con.walk good r0W (by simp) ?_
  unfold i0L
  simp only [a0I]
  repeat' (with_reducible first|refine Wx.h ?_|refine Wb.h fun K hK=>?_|(refine hK _ ?_;clear hK K)|((fail_if_success refine Wz.h ?_);simp (disch:=omega) only [↓LD,LA,a0A,seval]))
  refine HS.loopG [0,3] (fun k:Nat=>⟨frm 47 [(0,.f (.v (.string (BB l)))),(3,D.int k)],[],[]⟩) (fun k=>k≤l.length∧l.all chB=(l.drop k).all chB) (fun k=>l.length-k) 0 (by kernel_rfl) ⟨Nat.zero_le _,rfl⟩ ?_
  rintro k ⟨hk,hr⟩
  by_cases hkl:k<l.length
  · have hg:=getElem?_some_of hkl
    rw [a0G hkl,List.all_cons] at hr
    repeat' (with_reducible first|refine Wx.h ?_|refine Wb.h fun K hK=>?_|(refine hK _ ?_;clear hK K)|refine Wq.h ?_ ?_<;>intro h<;>try (exfalso;omega)|((fail_if_success refine Wz.h ?_);simp (disch:=omega) only [↓LD,LA,a0A,seval,hg]))
    all_goals first
      | (refine end1 rfl rfl (by kernel_rfl) .f ⟨congrArg D.bool ?_,rfl⟩
         have hc:chB (gt l k)=false:=by simp only [chB,inI];simp [*]
         rw [d0t,hr,hc];simp)
      | (refine Next.mk (k+1) (by kernel_rfl) ⟨by omega,?_⟩ (by omega)
         have hc:chB (gt l k)=true:=by simp only [chB,inI];simp [*]
         rw [hr,hc];try rfl)
  · rw [List.drop_of_length_le (by omega),List.all_nil] at hr
    have hz:((1:Int)≤l.length)=(l≠[]):=by apply propext;cases l<;>simp;omega
    repeat' (with_reducible first|refine Wx.h ?_|refine Wb.h fun K hK=>?_|(refine hK _ ?_;clear hK K)|refine Wq.h ?_ ?_<;>intro h<;>try (exfalso;omega)|((fail_if_success refine Wz.h ?_);simp (disch:=omega) only [↓LD,LA,a0A,seval]))
    all_goals (refine end1 rfl rfl (by kernel_rfl) .f ⟨congrArg D.bool ?_,rfl⟩;rw [d0t,hr])
    all_goals first
      | (rw [decide_eq_true (p:=l≠[]) (by rw [←hz];assumption),decide_eq_true (p:=l.length≤16) (by omega)];rfl)
      | (rw [decide_eq_false (p:=l.length≤16) (by omega)];simp;done)
      | (rw [decide_eq_false (p:=l≠[]) (by rw [←hz];assumption)];rfl)
instance {n:Int}{H:List Row}{K:D→List Row→Prop}:Wa (a0P Tryz.prog (.fn 114 []) [.f (.v (.int .i64 n))] H K) (K (.f (.v (.bool (verB n)))) H) :=
 ⟨fun h=>a0C (f0v n) rfl rfl rfl h⟩
instance {l:Bs}{H:List Row}{K:D→List Row→Prop}:Wa (a0P Tryz.prog (.fn 133 []) [.f (.v (.string (BB l)))] H K) (l.length≤1000000∧K (.f (.v (.bool (d0t l)))) H) :=
 ⟨fun h=>a0C (s0v l h.1) rfl rfl rfl h.2⟩
theorem k0d (ds:List Nd)(hf:FitN ds)(hl:ds.length<1000000):Con Tryz.prog 145 [.f (fG ds)] [] fun r H'=>r=D.bool (j0S ds)∧H'=[]:=by
 have hn:=hf
 have hc1:ds.all (fun d=>b0B d ds.length)=false→j0S ds=false:=fun h=>by rw [j0S,h];try rfl
 refine Con.walk good j0V (by simp) ?_
 unfold e0l
 simp only [a0I]
 repeat' (with_reducible first|refine Wx.h ?_|refine Wb.h fun K hK=>?_|(refine hK _ ?_;clear hK K)|((fail_if_success refine Wz.h ?_);simp (disch:=omega) only [↓LD,LA,a0A,seval,fG]))
 refine HS.loopG [0,3] (fun i:Nat=>⟨frm 83 [(0,.f (fG ds)),(3,D.int i)],[],[]⟩)
  (fun i=>i≤ds.length∧ds.all (fun d=>b0B d ds.length)=(ds.drop i).all (fun d=>b0B d ds.length)) (fun i=>ds.length-i) 0 (by kernel_rfl) ⟨Nat.zero_le _,rfl⟩ ?_
 rintro i ⟨hi,ha⟩
 by_cases hil:i<ds.length
 ·have hnl:=hn _ (a0K hil)
  rw [a0G hil,List.all_cons,i0z] at ha
  by_cases htl:1≤(gt ds i).tr∧(gt ds i).tr≤5∧1≤(gt ds i).le∧(gt ds i).le≤1048576
  rotate_left
  ·have hc:=hc1 (by rw [ha,show (decide (1≤(gt ds i).tr)&&decide ((gt ds i).tr≤5)&&decide (1≤(gt ds i).le)&&decide ((gt ds i).le≤1048576))=false by simp only [Bool.and_eq_false_iff,decide_eq_false_iff_not];omega,Bool.and_false,Bool.false_and])
   repeat' (with_reducible first|refine Wx.h ?_|refine Wb.h fun K hK=>?_|(refine hK _ ?_;clear hK K)|refine Wq.h ?_ ?_<;>intro h<;>try (exfalso;omega)|((fail_if_success refine Wz.h ?_);first|simp (disch:=omega) only [↓LD,LA,a0A,seval,fG,b0M,c0U,b0X,b0Y,b0Q,-a0A]|(refine And.intro ?_ ?_;omega)|fail))
   all_goals exact end1 rfl rfl (by kernel_rfl) .f ⟨by rw [hc];try rfl,rfl⟩
  rw [show (decide (1≤(gt ds i).tr)&&decide ((gt ds i).tr≤5)&&decide (1≤(gt ds i).le)&&decide ((gt ds i).le≤1048576))=true by simp only [Bool.and_eq_true,decide_eq_true_eq];omega,Bool.and_true] at ha
  repeat' (with_reducible first|refine Wx.h ?_|refine Wb.h fun K hK=>?_|(refine hK _ ?_;clear hK K)|refine Wq.h ?_ ?_<;>intro h<;>try (exfalso;omega)|((fail_if_success refine Wz.h ?_);first|simp (disch:=omega) only [↓LD,LA,a0A,seval,fG,b0M,c0U,b0X,b0Y,b0Q,-a0A]|(refine And.intro ?_ ?_;omega)|fail))
  refine HS.loopG [0,3,4,5] (fun k:Nat=>⟨frm 83 [(0,.f (fG ds)),(3,D.int i),(4,.pt 0 0),(5,D.int k)],[.box 123 [.f (fI (gt ds i).ns),D.int (gt ds i).tr,D.int (gt ds i).le]],[]⟩)
   (fun k=>k≤(gt ds i).ns.length ∧ -1≤lstI (gt ds i).ns k∧rise ds.length (-1) (gt ds i).ns=rise ds.length (lstI (gt ds i).ns k) ((gt ds i).ns.drop k)) (fun k=>(gt ds i).ns.length-k) 0 (by kernel_rfl) ⟨Nat.zero_le _,by simp [lstI],rfl⟩ ?_
  rintro k ⟨hk,hlb,hrs⟩
  by_cases hkl:k<(gt ds i).ns.length
  ·rw [a0G hkl,rise] at hrs
   have hl1:lstI (gt ds i).ns (k+1)=gt (gt ds i).ns k:=by rw [lstI,if_neg (by omega)];try rfl
   by_cases hgd:lstI (gt ds i).ns k<gt (gt ds i).ns k∧gt (gt ds i).ns k<ds.length
   ·rw [decide_eq_true hgd.1,decide_eq_true hgd.2,←hl1] at hrs
    by_cases hk0:k=0
    ·subst hk0
     repeat' (with_reducible first|refine Wx.h ?_|refine We.h fun K hK=>?_|refine Wd.h fun K M hK hM=>?_|(refine hK _ _ _ _ ?_;clear hK K;try clear hM M)|(refine hM ?_;clear hM M;try clear hK K)|refine Wb.h fun K hK=>?_|(refine hK _ ?_;clear hK K)|(refine Wy.h ?_ ?_;kernel_rfl)|refine Wq.h ?_ ?_<;>intro h<;>try (exfalso;omega)|((fail_if_success refine Wz.h ?_);first|simp (disch:=omega) only [↓LD,LA,a0A,seval,fG,fI]|(refine And.intro ?_ ?_;omega)|fail))
     exact Next.mk 1 (by kernel_rfl) ⟨by omega,by rw [hl1];omega,by rw [hrs];try rfl⟩ (by omega)
    ·have hl2:lstI (gt ds i).ns k=gt (gt ds i).ns ((k:Int)-1).toNat:=by rw [lstI,if_neg hk0,show ((k:Int)-1).toNat=k-1 by omega]
     repeat' (with_reducible first|refine Wx.h ?_|refine We.h fun K hK=>?_|refine Wd.h fun K M hK hM=>?_|(refine hK _ _ _ _ ?_;clear hK K;try clear hM M)|refine Wb.h fun K hK=>?_|(refine hK _ ?_;clear hK K)|(refine Wy.h ?_ ?_;kernel_rfl)|refine Wq.h ?_ ?_<;>intro h<;>try (exfalso;omega)|((fail_if_success refine Wz.h ?_);first|simp (disch:=omega) only [↓LD,LA,a0A,seval,fG,fI]|(refine And.intro ?_ ?_;omega)|fail))
     exact Next.mk (k+1) (by kernel_rfl) ⟨by omega,by rw [hl1];omega,by rw [hrs];try rfl⟩ (by omega)
   ·have hc:=hc1 (by rw [ha,hrs,show (decide (lstI (gt ds i).ns k<gt (gt ds i).ns k)&&decide (gt (gt ds i).ns k<ds.length))=false by simp only [Bool.and_eq_false_iff,decide_eq_false_iff_not];omega,Bool.false_and,Bool.false_and])
    by_cases hk0:k=0
    ·subst hk0
     have hl2:lstI (gt ds i).ns 0 = -1:=rfl
     repeat' (with_reducible first|refine Wx.h ?_|refine We.h fun K hK=>?_|refine Wd.h fun K M hK hM=>?_|(refine hK _ _ _ _ ?_;clear hK K;try clear hM M)|(refine hM ?_;clear hM M;try clear hK K)|refine Wb.h fun K hK=>?_|(refine hK _ ?_;clear hK K)|(refine Wy.h ?_ ?_;kernel_rfl)|refine Wq.h ?_ ?_<;>intro h<;>try (exfalso;omega)|((fail_if_success refine Wz.h ?_);first|simp (disch:=omega) only [↓LD,LA,a0A,seval,fG,fI]|(refine And.intro ?_ ?_;omega)|fail))
     all_goals exact end1 rfl rfl (by kernel_rfl) .f ⟨by rw [hc];try rfl,rfl⟩
    ·have hl2:lstI (gt ds i).ns k=gt (gt ds i).ns ((k:Int)-1).toNat:=by rw [lstI,if_neg hk0,show ((k:Int)-1).toNat=k-1 by omega]
     repeat' (with_reducible first|refine Wx.h ?_|refine We.h fun K hK=>?_|refine Wd.h fun K M hK hM=>?_|(refine hK _ _ _ _ ?_;clear hK K;try clear hM M)|(refine hM ?_;clear hM M;try clear hK K)|refine Wb.h fun K hK=>?_|(refine hK _ ?_;clear hK K)|(refine Wy.h ?_ ?_;kernel_rfl)|refine Wq.h ?_ ?_<;>intro h<;>try (exfalso;omega)|((fail_if_success refine Wz.h ?_);first|simp (disch:=omega) only [↓LD,LA,a0A,seval,fG,fI]|(refine And.intro ?_ ?_;omega)|fail))
     all_goals exact end1 rfl rfl (by kernel_rfl) .f ⟨by rw [hc];try rfl,rfl⟩
  ·rw [List.drop_of_length_le (by omega),rise] at hrs
   rw [hrs,Bool.true_and] at ha
   repeat' (with_reducible first|refine Wx.h ?_|refine Wb.h fun K hK=>?_|(refine hK _ ?_;clear hK K)|refine Wq.h ?_ ?_<;>intro h<;>try (exfalso;omega)|((fail_if_success refine Wz.h ?_);simp (disch:=omega) only [↓LD,LA,a0A,seval,fG,fI]))
   exact Next.mk (i+1) (by kernel_rfl) ⟨by omega,ha⟩ (by omega)
 ·rw [List.drop_of_length_le (by omega),List.all_nil] at ha
  repeat' (with_reducible first|refine Wx.h ?_|refine Wb.h fun K hK=>?_|(refine hK _ ?_;clear hK K)|refine Wq.h ?_ ?_<;>intro h<;>try (exfalso;omega)|((fail_if_success refine Wz.h ?_);simp (disch:=omega) only [↓LD,LA,a0A,seval,fG]))
  all_goals (refine end1 rfl rfl (by kernel_rfl) .f ⟨congrArg D.bool ?_,rfl⟩;rw [j0S,ha];simp [inI, *])
instance {ds:List Nd}{H:List Row}{K:D→List Row→Prop}[hf:Small ds]:Wa (a0P Tryz.prog (.fn 145 []) [.f (fG ds)] H K) (K (.f (.v (.bool (j0S ds)))) H) :=
 ⟨fun h=>a0C (k0d ds hf.h.1 hf.h.2) rfl rfl rfl h⟩
theorem b1y {l:Bs}(h:d0t l=true):l≠[]:=by
 intro e;rw [e] at h;exact absurd h (by decide)
theorem rightE_iff {e:Ev}:b0H e=true↔((1≤e.ty∧e.ty≤12)∧(1≤e.id∧e.id≤200)∧verB e.ver=true∧(0≤e.time∧e.time≤1099511627776) ∧
  (if e.ty=2∨e.ty=3∨e.ty=4 then 0≤e.node∧e.node≤7∧1≤e.n∧e.n≤5 else e.node=0)∧(if e.ty=2∨e.ty=3∨e.ty=4 then True else if e.ty=5 then 1≤e.n∧e.n≤1048576 else e.n=0) ∧
  (if e.ty=5∨e.ty=6∨e.ty=7 then d0t e.name=true else e.name=[])∧(e.data=[]∨((e.ty=3∨e.ty=7)∧e.data.length≤40))∧(if e.ty=1 then j0S e.defs=true else e.defs=[])):=by
 have ht:(1≤e.ty∧e.ty≤12)∨¬ (1≤e.ty∧e.ty≤12):=Classical.em _
 rcases ht with ht|ht
 ·rcases (show e.ty=1∨e.ty=2∨e.ty=3∨e.ty=4∨e.ty=5∨e.ty=6∨e.ty=7∨e.ty=8∨e.ty=9∨e.ty=10∨e.ty=11∨e.ty=12 by omega) with h|h|h|h|h|h|h|h|h|h|h|h
  all_goals
   simp [b0H,pOk,inI,numB,s0P,pN,y0d,a1c,a1N,a1G,h]
   try (constructor<;>(intro hh;simp_all)<;>try omega)
  all_goals exact b1y hh.2.2.2.2.2.1
 ·constructor
  ·intro h
   simp [b0H,pOk,inI] at h
   omega
  ·intro h;exact absurd h.1 ht
set_option maxRecDepth 100000 in
theorem x0L (e:Ev)(hf:FitN e.defs)(hl:e.defs.length<1000000)(hn:e.name.length≤1000000):Con Tryz.prog 103 [evD e] [] fun r H'=>r=D.bool (b0H e)∧H'=[]:=by
  haveI:Small e.defs:=⟨⟨hf,hl⟩⟩
  refine Con.walk good s0J (by simp) ?_
  unfold l0T evD
  simp only [a0I]
  have hz:(0<(e.defs.length:Int))=(e.defs≠[]):=by apply propext;cases e.defs<;>simp
  repeat' (with_reducible first|refine Wx.h ?_|refine Wb.h fun K hK=>?_|(refine hK _ ?_;clear hK K)|(refine wT ?_ ?_;assumption)|(refine wF ?_ ?_;assumption)|refine Wq.h ?_ ?_<;>intro h<;>try (exfalso;omega)|refine Wu.h ?_ ?_<;>intro h<;>try simp only [h]|((fail_if_success refine Wz.h ?_);first|simp (disch:=omega) only [↓LD,LA,a0A,seval,hz]|(refine And.intro ?_ ?_;omega)|fail))
  all_goals (refine end1 rfl rfl (by kernel_rfl) .f ⟨congrArg D.bool ?_,rfl⟩)
  all_goals first
    | (refine (Bool.eq_false_iff.2 fun hr=>?_).symm
       obtain ⟨a1,a2,a3,a4,a5,a6,a7,a8,a9⟩:=rightE_iff.1 hr
       first
        | omega
        | (rcases a8 with a8|a8
           · have a8':e.data.length=0:=by rw [a8];try rfl
             first|omega|(simp_all;done)|(simp_all;omega)
           · first|omega|(simp_all;done)|(simp_all;omega)))
    | (refine (rightE_iff.2 ⟨by omega,by omega,by simp_all,by omega,by simp_all;try omega,by simp_all;try omega,by simp_all,?_,by simp_all⟩).symm
       first
        | exact .inl (List.eq_nil_of_length_eq_zero (by omega))
        | exact .inr ⟨by omega,by omega⟩)
end Go.Proofs.YthjgmldnegaaiaaGreatDoor.Mir
