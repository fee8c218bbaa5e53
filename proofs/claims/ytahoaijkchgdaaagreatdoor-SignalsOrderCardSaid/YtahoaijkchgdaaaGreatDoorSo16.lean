/- Lemmas for the proof. No condition. -/
import Derived.Test.YtahoaijkchgdaaaGreatDoorSo15
import Derived.Test.YtahoaijkchgdaaaGreatDoorCards
import Derived.Deep.DeepHandedRow
set_option linter.unusedVariables false
set_option linter.unusedSimpArgs false
namespace Go.Proofs.YtahoaijkchgdaaaGreatDoor.Mir
open Go Go.RowKit
set_option maxHeartbeats 4000000
set_option maxRecDepth 100000 in
theorem f0X (e:Ev)(s:S12)(hl:s.sgs.length≤1000000):Con Tryz.prog 114 [evD e,.pt 0 0] [stF s] fun r H'=>r=D.bool (d0R s.sgs e.name)∧H'=[stF s]:=by
 have hc:=t0k s e.name hl
 obtain ⟨id,ver,time,closed,cancel,defs,nodes,tms,sgs⟩:=s
 refine Con.walk good k0T (by simp) ?_
 unfold f0Q evD
 simp only [a0J]
 repeat' (with_reducible first|refine Wx.h ?_|refine Wb.h fun K hK=>?_|(refine hK _ ?_;clear hK K)|(refine wT ?_ ?_;assumption)|(refine wF ?_ ?_;assumption)|(refine Wy.h ?_ ?_;kernel_rfl)|refine Wq.h ?_ ?_<;>intro h<;>try (exfalso;omega)|refine Wu.h ?_ ?_<;>intro h<;>try simp only [h]|((fail_if_success refine Wz.h ?_);first|simp (disch:=omega) only [↓LD,LA,a0A,seval,stF]|(refine And.intro ?_ ?_;omega)|simp only [D.int,D.bool]))
 refine a0C hc rfl rfl rfl ?_
 repeat' (with_reducible first|refine Wx.h ?_|refine Wb.h fun K hK=>?_|(refine hK _ ?_;clear hK K)|(refine wT ?_ ?_;assumption)|(refine wF ?_ ?_;assumption)|(refine Wy.h ?_ ?_;kernel_rfl)|refine Wq.h ?_ ?_<;>intro h<;>try (exfalso;omega)|refine Wu.h ?_ ?_<;>intro h<;>try simp only [h]|((fail_if_success refine Wz.h ?_);first|simp (disch:=omega) only [↓LD,LA,a0A,seval,stF]|(refine And.intro ?_ ?_;omega)|simp only [D.int,D.bool]))
 exact end1 rfl rfl (by kernel_rfl) .f ⟨rfl,rfl⟩
def idxE (p:Ev→Bool):Nat→List Ev→Int
 | _,[]=>-1
 | i,e :: l=>if p e=true then i else idxE p (i+1) l
set_option maxRecDepth 100000 in
theorem k0a (l:List Ev)(s:S12)(hl:l.length≤1000000)(hs:s.sgs.length≤1000000):Con Tryz.prog 181 [.sl 0 0 l.length,.fn 114 [.pt 1 0]] [rEv l,stF s] fun r H'=>r=D.int (idxE (fun e=>d0R s.sgs e.name) 0 l)∧H'=[rEv l,stF s]:=by
 refine Con.walk good d0p (by simp) ?_
 unfold c0o
 simp only [a0J]
 repeat' (with_reducible first|refine Wx.h ?_|refine Wb.h fun K hK=>?_|(refine hK _ ?_;clear hK K)|(refine wT ?_ ?_;assumption)|(refine wF ?_ ?_;assumption)|(refine Wy.h ?_ ?_;kernel_rfl)|refine Wq.h ?_ ?_<;>intro h<;>try (exfalso;omega)|refine Wu.h ?_ ?_<;>intro h<;>try simp only [h]|((fail_if_success refine Wz.h ?_);first|simp (disch:=omega) only [↓LD,LA,a0A,seval,rEv]|(refine And.intro ?_ ?_;omega)|simp only [D.int,D.bool]))
 refine HS.loopG [0,1,7,8] (fun i:Nat=>⟨frm 19 [(0,.sl 0 0 l.length),(1,.fn 114 [.pt 1 0]),(7,D.int l.length),(8,D.int i)],[rEv l,stF s],[]⟩) (fun i=>i≤l.length∧idxE (fun e=>d0R s.sgs e.name) 0 l=idxE (fun e=>d0R s.sgs e.name) i (l.drop i)) (fun i=>l.length-i) 0 (by kernel_rfl) ⟨Nat.zero_le _,rfl⟩ ?_
 rintro i ⟨hi,hF⟩
 by_cases hil:i<l.length
 ·rw [a0I hil,idxE] at hF
  generalize hg:gt l i=e at *
  repeat' (with_reducible first|refine Wx.h ?_|refine Wb.h fun K hK=>?_|(refine hK _ ?_;clear hK K)|(refine wT ?_ ?_;assumption)|(refine wF ?_ ?_;assumption)|(refine Wy.h ?_ ?_;kernel_rfl)|refine Wq.h ?_ ?_<;>intro h<;>try (exfalso;omega)|refine Wu.h ?_ ?_<;>intro h<;>try simp only [h]|((fail_if_success refine Wz.h ?_);first|simp (disch:=omega) only [↓LD,LA,a0A,seval,rEv,n0f,a0K,hg,Ev.cs,List.map_cons,List.map_nil]|(refine And.intro ?_ ?_;omega)|simp only [D.int,D.bool]))
  refine a0F (f0X e s hs) [1] (by kernel_rfl) rfl rfl ?_
  rintro _ _ ⟨rfl,rfl⟩
  simp (disch:=omega) only [↓LD,LA,a0A,seval,ren,List.getElem?_nil]
  repeat' (with_reducible first|refine Wx.h ?_|refine Wb.h fun K hK=>?_|(refine hK _ ?_;clear hK K)|(refine wT ?_ ?_;assumption)|(refine wF ?_ ?_;assumption)|(refine Wy.h ?_ ?_;kernel_rfl)|refine Wq.h ?_ ?_<;>intro h<;>try (exfalso;omega)|refine Wu.h ?_ ?_<;>intro h<;>try simp only [h]|((fail_if_success refine Wz.h ?_);first|simp (disch:=omega) only [↓LD,LA,a0A,seval,rEv]|(refine And.intro ?_ ?_;omega)|simp only [D.int,D.bool]))
  ·rw [if_pos (by assumption)] at hF
   exact end1 rfl rfl (by kernel_rfl) .f ⟨by rw [hF],rfl⟩
  ·rw [if_neg (by simp [*])] at hF
   exact Next.mk (i+1) (by kernel_rfl) ⟨by omega,hF⟩ (by omega)
 ·repeat' (with_reducible first|refine Wx.h ?_|refine Wb.h fun K hK=>?_|(refine hK _ ?_;clear hK K)|(refine wT ?_ ?_;assumption)|(refine wF ?_ ?_;assumption)|(refine Wy.h ?_ ?_;kernel_rfl)|refine Wq.h ?_ ?_<;>intro h<;>try (exfalso;omega)|refine Wu.h ?_ ?_<;>intro h<;>try simp only [h]|((fail_if_success refine Wz.h ?_);first|simp (disch:=omega) only [↓LD,LA,a0A,seval,rEv]|(refine And.intro ?_ ?_;omega)|simp only [D.int,D.bool]))
  rw [List.drop_of_length_le (by omega)] at hF
  exact end1 rfl rfl (by kernel_rfl) .f ⟨by rw [hF];rfl,rfl⟩
theorem y0A {P:Program}{H2:List Row}{e:Ev}{R:List Ev}{U:TypeId}{k:Nat}(hk:k<R.length):c0N P (.data U (R.flatMap Ev.cs) :: H2) 9 0 (k*9) (eA e) (some (.data U (R.flatMap Ev.cs)))=some (.data U ((R.set k e).flatMap Ev.cs) :: H2):=by
 have h:=q0A (P:=P) (H:=.data U (R.flatMap Ev.cs) :: H2) (n:=9) (r:=0) (off:=k*9) (ys:=Ev.cs e) (U:=U) (xs:=R.flatMap Ev.cs) rfl (by omega)
 rw [if_pos (by rw [a0K];omega)] at h
 refine h.trans ?_
 show some ((Row.data U (R.flatMap Ev.cs) :: H2).set 0 (.data U (splice (R.flatMap Ev.cs) (k*9) (Ev.cs e))))=_
 rw [e0n Ev.cs_len hk];rfl
theorem p0S {p:Ev→Bool}:∀ {l:List Ev} {i:Nat},(idxE p i l = -1∧l.filter (fun e=>!p e)=l)∨∃ k:Nat,idxE p i l=(i+k:Nat)∧k<l.length∧(l.take (k+1)).filter (fun e=>!p e)=l.take k
 | [],i=>.inl ⟨rfl,rfl⟩
 | e :: l,i=>by
  rw [idxE]
  by_cases h:p e=true
  ·rw [if_pos h]
   exact .inr ⟨0,by simp,by simp,by simp [h]⟩
  ·rw [if_neg h]
   rcases p0S (p:=p) (l:=l) (i:=i+1) with ⟨h1,h2⟩|⟨k,h1,h2,h3⟩
   ·exact .inl ⟨h1,by rw [List.filter_cons,if_pos (by simp [h]),h2]⟩
   ·exact .inr ⟨k+1,by rw [h1];congr 1;omega,by simp;omega,by rw [List.take_succ_cons,List.filter_cons,if_pos (by simp [h]),h3,List.take_succ_cons]⟩
theorem x0l {R:List Ev}{c:Nat}{e:Ev}(hc:c<R.length):(R.set c e).take (c+1)=R.take c++[e]:=by
 have h1:(R.take c).length=c:=by rw [List.length_take];omega
 rw [List.set_eq_take_append_cons_drop,if_pos hc,List.take_append,h1,List.take_of_length_le (by omega),show c+1-c=1 by omega]
 rfl
theorem x0n {H2:List Row}{xs:List F}{off m:Nat}(hm:m≠0)(hl:off+m*9≤xs.length):∃ zs,h0A Tryz.prog (.data 42 xs :: H2) 31 (.sl 0 off m)=some (.data 42 (xs.take off++zs) :: H2):=by
 have hu:Tryz.prog.underlying 31=some (.slice 42):=by kernel_rfl
 have hi:inf Tryz.prog 42=some (9,112,[.int .i64 0,.int .i64 0,.int .i64 0,.int .i64 0,.int .i64 0,.int .i64 0,.string ⟨#[]⟩,.slice none 0 0,.slice none 0 0]):=m0j
 have h:∃ vals,h0A Tryz.prog (.data 42 xs :: H2) 31 (.sl 0 off m)=some (.data 42 (splice xs off vals) :: H2):=by
  unfold h0A h0G
  rw [hu]
  dsimp only
  rw [if_neg hm,List.getElem?_cons_zero,hi]
  dsimp only
  rw [if_pos ⟨hl,by omega⟩]
  exact ⟨_,congrArg some (List.append_nil _)⟩
 obtain ⟨vals,h⟩:=h
 refine ⟨vals++xs.drop (off+vals.length),?_⟩
 rw [h,splice,List.append_assoc]
theorem e1J {l:List Ev}{k:Nat}:(l.flatMap Ev.cs).take (k*9)=(l.take k).flatMap Ev.cs:=by
 induction l generalizing k with
 | nil=>simp
 | cons e l ih =>
  cases k with
  | zero=>simp
  | succ k=>rw [List.take_succ_cons,List.flatMap_cons,List.flatMap_cons,List.take_append,List.take_of_length_le (by rw [Ev.cs_len];omega),Ev.cs_len,show (k+1)*9-9=k*9 by omega,ih]
def hadB (s:S12)(e:Ev):Bool:=d0R s.sgs e.name
set_option maxRecDepth 100000 in
theorem i0Z (l:List Ev)(s:S12)(h0:l.length≠0)(hl:l.length≤1000000)(hs:s.sgs.length≤1000000):Con Tryz.prog 113 [.sl 0 0 l.length,.fn 114 [.pt 1 0]] [rEv l,stF s] fun r H'=>∃ xs,r=(if (l.filter fun e=>!hadB s e).length=0 then .f (.s [] 0) else .sl 0 0 (l.filter fun e=>!hadB s e).length)∧H'=[.data 42 ((l.filter fun e=>!hadB s e).flatMap Ev.cs++xs),stF s]:=by
 have hi0:=p0S (p:=hadB s) (l:=l) (i:=0)
 have hc:=k0a l s hl hs
 change Con _ _ _ _ fun r H'=>r=D.int (idxE (hadB s) 0 l)∧H'=[rEv l,stF s] at hc
 generalize idxE (hadB s) 0 l=i0 at *
 refine Con.walk good d0f (by simp) ?_
 unfold c0Y
 simp only [a0J]
 rcases hi0 with ⟨rfl,hf⟩|⟨k,hk,hkl,hkf⟩
 ·rw [hf]
  repeat' (with_reducible first|refine Wx.h ?_|refine Wb.h fun K hK=>?_|(refine hK _ ?_;clear hK K)|(refine wT ?_ ?_;assumption)|(refine wF ?_ ?_;assumption)|(refine Wy.h ?_ ?_;kernel_rfl)|refine Wq.h ?_ ?_<;>intro h<;>try (exfalso;omega)|refine Wu.h ?_ ?_<;>intro h<;>try simp only [h]|((fail_if_success refine Wz.h ?_);first|simp (disch:=omega) only [↓LD,LA,a0A,seval]|(refine And.intro ?_ ?_;omega)|simp only [D.int,D.bool]))
  refine a0F hc [0,1] (by kernel_rfl) rfl rfl ?_
  rintro _ _ ⟨rfl,rfl⟩
  simp (disch:=omega) only [↓LD,LA,a0A,seval,ren,List.getElem?_nil,rEv,stF]
  repeat' (with_reducible first|refine Wx.h ?_|refine Wb.h fun K hK=>?_|(refine hK _ ?_;clear hK K)|(refine wT ?_ ?_;assumption)|(refine wF ?_ ?_;assumption)|(refine Wy.h ?_ ?_;kernel_rfl)|refine Wq.h ?_ ?_<;>intro h<;>try (exfalso;omega)|refine Wu.h ?_ ?_<;>intro h<;>try simp only [h]|((fail_if_success refine Wz.h ?_);first|simp (disch:=omega) only [↓LD,LA,a0A,seval]|(refine And.intro ?_ ?_;omega)|simp only [D.int,D.bool]))
  exact endA rfl rfl ⟨[],by rw [if_neg h0];rfl,by rw [List.append_nil];rfl⟩
 ·rw [Nat.zero_add] at hk
  subst hk
  repeat' (with_reducible first|refine Wx.h ?_|refine Wb.h fun K hK=>?_|(refine hK _ ?_;clear hK K)|(refine wT ?_ ?_;assumption)|(refine wF ?_ ?_;assumption)|(refine Wy.h ?_ ?_;kernel_rfl)|refine Wq.h ?_ ?_<;>intro h<;>try (exfalso;omega)|refine Wu.h ?_ ?_<;>intro h<;>try simp only [h]|((fail_if_success refine Wz.h ?_);first|simp (disch:=omega) only [↓LD,LA,a0A,seval]|(refine And.intro ?_ ?_;omega)|simp only [D.int,D.bool]))
  refine a0F hc [0,1] (by kernel_rfl) rfl rfl ?_
  rintro _ _ ⟨rfl,rfl⟩
  simp (disch:=omega) only [↓LD,LA,a0A,seval,ren,List.getElem?_nil,rEv,stF]
  repeat' (with_reducible first|refine Wx.h ?_|refine Wb.h fun K hK=>?_|(refine hK _ ?_;clear hK K)|(refine wT ?_ ?_;assumption)|(refine wF ?_ ?_;assumption)|(refine Wy.h ?_ ?_;kernel_rfl)|refine Wq.h ?_ ?_<;>intro h<;>try (exfalso;omega)|refine Wu.h ?_ ?_<;>intro h<;>try simp only [h]|((fail_if_success refine Wz.h ?_);first|simp (disch:=omega) only [↓LD,LA,a0A,seval,rEv]|(refine And.intro ?_ ?_;omega)|simp only [D.int,D.bool]))
  refine HS.loopG [0,1,5,6] (fun x:Nat × Nat × List Ev=>⟨frm 42 [(0,.sl 0 0 l.length),(1,.fn 114 [.pt 1 0]),(5,D.int x.1),(6,D.int x.2.1)],[rEv x.2.2,stF s],[]⟩) (fun x=>x.1<x.2.1∧x.2.1≤l.length∧x.2.2.length=l.length∧x.2.2.take x.1=(l.take x.2.1).filter (fun e=>!hadB s e)∧x.2.2.drop x.2.1=l.drop x.2.1) (fun x=>l.length-x.2.1) (k,k+1,l) (by kernel_rfl) ⟨by dsimp only;omega,by dsimp only;omega,rfl,hkf.symm,rfl⟩ ?_
  clear hkf hkl
  rintro ⟨c,j,R⟩ ⟨hcj,hj,hR,hT,hD⟩
  dsimp only at hcj hj hR hT hD
  by_cases hjl:j<l.length
  ·have hg:gt R j=gt l j:=by
    have h1:(R.drop j)[0]?=(l.drop j)[0]?:=by rw [hD]
    rw [List.getElem?_drop,List.getElem?_drop,Nat.add_zero,List.getElem?_eq_getElem (by omega),List.getElem?_eq_getElem (by omega)] at h1
    rw [b0N (by omega),b0N (by omega)]
    exact Option.some.inj h1
   generalize he:gt l j=e at *
   have hst:=fun (P:Program) (H2:List Row) (U:TypeId)=>y0A (P:=P) (H2:=H2) (e:=e) (R:=R) (U:=U) (k:=c) (by omega)
   repeat' (with_reducible first|refine Wx.h ?_|refine Wb.h fun K hK=>?_|(refine hK _ ?_;clear hK K)|(refine wT ?_ ?_;assumption)|(refine wF ?_ ?_;assumption)|(refine Wy.h ?_ ?_;kernel_rfl)|refine Wq.h ?_ ?_<;>intro h<;>try (exfalso;omega)|refine Wu.h ?_ ?_<;>intro h<;>try simp only [h]|((fail_if_success refine Wz.h ?_);first|simp (disch:=omega) only [↓LD,LA,a0A,seval,rEv,n0f,a0K,hR,hg,Ev.cs,List.map_cons,List.map_nil]|(refine And.intro ?_ ?_;omega)|simp only [D.int,D.bool]))
   refine a0F (f0X e s hs) [1] (by kernel_rfl) rfl rfl ?_
   rintro _ _ ⟨rfl,rfl⟩
   have htk:l.take (j+1)=l.take j++[e]:=by rw [List.take_succ_eq_append_getElem hjl,←b0N hjl,he]
   have hD2:R.drop (j+1)=l.drop (j+1):=by rw [←List.drop_drop,←List.drop_drop,hD]
   simp (disch:=omega) only [↓LD,LA,a0A,seval,ren,List.getElem?_nil,rEv,stF]
   repeat' (with_reducible first|refine Wx.h ?_|refine Wb.h fun K hK=>?_|(refine hK _ ?_;clear hK K)|(refine wT ?_ ?_;assumption)|(refine wF ?_ ?_;assumption)|(refine Wy.h ?_ ?_;kernel_rfl)|refine Wq.h ?_ ?_<;>intro h<;>try (exfalso;omega)|refine Wu.h ?_ ?_<;>intro h<;>try simp only [h]|((fail_if_success refine Wz.h ?_);first|simp (disch:=omega) only [↓LD,LA,a0A,seval,rEv,hst,a0K,hR]|(refine And.intro ?_ ?_;omega)|simp only [D.int,D.bool]))
   ·have hb:(!hadB s e)=true:=by assumption
    exact Next.mk (c+1,j+1,R.set c e) (by kernel_rfl) ⟨by dsimp only;omega,by dsimp only;omega,by dsimp only;rw [List.length_set];exact hR,by dsimp only;rw [x0l (by omega),hT,htk,List.filter_append,List.filter_cons,if_pos hb,List.filter_nil],by dsimp only;rw [List.drop_set_of_lt (by omega)];exact hD2⟩ (by dsimp only;omega)
   ·have hb:(!hadB s e)=false:=by assumption
    exact Next.mk (c,j+1,R) (by kernel_rfl) ⟨by dsimp only;omega,by dsimp only;omega,hR,by dsimp only;rw [hT,htk,List.filter_append,List.filter_cons,if_neg (by rw [hb];simp),List.filter_nil,List.append_nil],hD2⟩ (by dsimp only;omega)
  ·obtain rfl:j=l.length:=by omega
   rw [List.take_length] at hT
   have hcn:¬ c=l.length:=by omega
   have hpos:0<l.length*9:=by omega
   obtain ⟨zs,hz⟩:=x0n (H2:=[stF s]) (xs:=R.flatMap Ev.cs) (off:=c*9) (m:=l.length-c) (by omega) (by rw [a0K];omega)
   rw [e1J,hT] at hz
   have hcl:c=(l.filter fun e=>!hadB s e).length:=by rw [←hT,List.length_take];omega
   repeat' (with_reducible first|refine Wx.h ?_|refine Wb.h fun K hK=>?_|(refine hK _ ?_;clear hK K)|(refine wT ?_ ?_;assumption)|(refine wF ?_ ?_;assumption)|(refine Wy.h ?_ ?_;kernel_rfl)|refine Wq.h ?_ ?_<;>intro h<;>try (exfalso;omega)|refine Wu.h ?_ ?_<;>intro h<;>try simp only [h]|((fail_if_success refine Wz.h ?_);first|simp (disch:=omega) only [↓LD,LA,a0A,seval,rEv,hcn,a0K,hR,hpos,hz,↓reduceIte]|(refine And.intro ?_ ?_;omega)|simp only [D.int,D.bool]))
   by_cases hc0:0=c
   ·simp only [if_pos hc0]
    repeat' (with_reducible first|refine Wx.h ?_|refine Wb.h fun K hK=>?_|(refine hK _ ?_;clear hK K)|(refine wT ?_ ?_;assumption)|(refine wF ?_ ?_;assumption)|(refine Wy.h ?_ ?_;kernel_rfl)|refine Wq.h ?_ ?_<;>intro h<;>try (exfalso;omega)|refine Wu.h ?_ ?_<;>intro h<;>try simp only [h]|((fail_if_success refine Wz.h ?_);first|simp (disch:=omega) only [↓LD,LA,a0A,seval,rEv]|(refine And.intro ?_ ?_;omega)|simp only [D.int,D.bool]))
    exact endA rfl rfl ⟨zs,by rw [←hcl,if_pos hc0.symm];rfl,rfl⟩
   ·have hp2:0<(List.flatMap Ev.cs (l.filter fun e=>!hadB s e)++zs).length:=by rw [List.length_append,a0K,←hcl];omega
    simp only [if_neg hc0,if_pos hp2]
    repeat' (with_reducible first|refine Wx.h ?_|refine Wb.h fun K hK=>?_|(refine hK _ ?_;clear hK K)|(refine wT ?_ ?_;assumption)|(refine wF ?_ ?_;assumption)|(refine Wy.h ?_ ?_;kernel_rfl)|refine Wq.h ?_ ?_<;>intro h<;>try (exfalso;omega)|refine Wu.h ?_ ?_<;>intro h<;>try simp only [h]|((fail_if_success refine Wz.h ?_);first|simp (disch:=omega) only [↓LD,LA,a0A,seval,rEv]|(refine And.intro ?_ ?_;omega)|simp only [D.int,D.bool]))
    exact endA rfl rfl ⟨zs,by rw [←hcl,if_neg (fun e=>hc0 e.symm)];rfl,rfl⟩
structure SigOk (t:Br)(ms:List Ev):Prop where
 mem:∀ e∈ms,e.ty=7∧∃ b∈t,e∈b
 nd:(ms.map (·.name)).Nodup
theorem findE_none {ms:List Ev}{k:Bs}:(e0Z ms k).isNone=true↔k ∉ ms.map (·.name):=by
 unfold e0Z
 rw [Option.isNone_iff_eq_none,List.find?_eq_none]
 constructor
 ·intro h hm
  obtain ⟨e,he,rfl⟩:=List.mem_map.1 hm
  have:=h e he
  simp at this
 ·intro h e he hk
  have hk:k=e.name:=by simpa using hk
  exact h (List.mem_map.2 ⟨e,he,hk.symm⟩)
theorem SigOk.add {t:Br}{ms:List Ev}{e:Ev}{b:List Ev}(h:SigOk t ms)(hb:b∈t)(he:e∈b):SigOk t (addS ms e):=by
 unfold addS
 split
 ·rename_i hc
  refine ⟨fun x hx=>?_,?_⟩
  ·rcases List.mem_append.1 hx with hx|hx
   ·exact h.mem x hx
   ·obtain rfl:=List.mem_singleton.1 hx;exact ⟨hc.2,b,hb,he⟩
  ·rw [List.map_append,List.nodup_append]
   refine ⟨h.nd,by simp,fun a ha c hcc=>?_⟩
   rintro rfl
   obtain rfl:a=e.name:=by simpa using hcc
   exact findE_none.1 hc.1 ha
 ·exact h
theorem SigOk.addAll {t:Br}:∀ {l:List Ev} {ms:List Ev} {b:List Ev},SigOk t ms→b∈t→(∀ e∈l,e∈b)→SigOk t (l.foldl addS ms)
 | [],_,_,h,_,_=>h
 | e :: l,ms,b,h,hb,hl=>SigOk.addAll (l:=l) (h.add hb (hl e (by simp))) hb fun x hx=>hl x (by simp [hx])
theorem SigOk.all {t:Br}:∀ {l:Br} {ms:List Ev},SigOk t ms→(∀ b∈l,b∈t)→SigOk t (l.foldl (fun ms b=>b.foldl addS ms) ms)
 | [],_,h,_=>h
 | b :: l,ms,h,hl=>SigOk.all (l:=l) (h.addAll (hl b (by simp)) fun x hx=>hx) fun x hx=>hl x (by simp [hx])
theorem z0r (t:Br):SigOk t (sigM t):=SigOk.all ⟨fun e h=>by simp at h,by simp⟩ fun b hb=>hb
theorem w0W (ms:List Ev):(allL ms).map (·.name)=b0V ms:=by
 have key:∀ ks:List Bs,(∀ k∈ks,k∈b0V ms)→(ks.map fun k=>(e0Z ms k).getD default).map (·.name)=ks:=by
  intro ks
  induction ks with
  | nil=>intro _;rfl
  | cons k ks ih =>
   intro h
   obtain ⟨e,h1,h2,h3⟩:=a1N (h k (by simp))
   rw [List.map_cons,List.map_cons,h1,ih fun x hx=>h x (by simp [hx])]
   show e.name :: ks=k :: ks
   rw [h3]
 exact key _ fun k h=>h
set_option maxRecDepth 100000 in
theorem y0w (l:List Ev)(hl:l.length≤1000000)(hf:∀ e∈l,FitV e):Con Tryz.prog 42 [.f (fEv l)] [] fun r H'=>r = .tp [stD (a0M s0 l).2,D.int (a0M s0 l).1]∧H'=[]:=by
 refine Con.walk good x0M (by simp) ?_
 unfold p0w
 simp only [a0J]
 repeat' (with_reducible first|refine Wx.h ?_|refine Wb.h fun K hK=>?_|(refine hK _ ?_;clear hK K)|(refine wT ?_ ?_;assumption)|(refine wF ?_ ?_;assumption)|(refine Wy.h ?_ ?_;kernel_rfl)|refine Wq.h ?_ ?_<;>intro h<;>try (exfalso;omega)|refine Wu.h ?_ ?_<;>intro h<;>try simp only [h]|((fail_if_success refine Wz.h ?_);first|simp (disch:=omega) only [↓LD,LA,a0A,seval,LEv]|(refine And.intro ?_ ?_;omega)|simp only [D.int,D.bool]))
 refine HS.view (View.bcell 1 5 (.f (.s [] 0)) rfl rfl .ns) ?_
 refine HS.view (View.void 106) ?_
 refine HS.view (View.void 108) ?_
 refine HS.view (View.void 143) ?_
 refine HS.view (View.bcell 1 6 (.sl 2 0 0) rfl rfl (.no (by show 2<5;omega))) ?_
 refine HS.view (View.bcell 1 7 (.sl 3 0 0) rfl rfl (.no (by show 3<5;omega))) ?_
 refine HS.view (View.bcell 1 8 (.sl 4 0 0) rfl rfl (.no (by show 4<5;omega))) ?_
 refine HS.loopG [2,4,9,10,11] (fun x:Nat × S12=>⟨frm 23 [(2,.pt 0 0),(4,.pt 1 0),(9,.f (fEv l)),(10,D.int l.length),(11,D.int x.1)],[.box 47 [jI,jI,jI,jI,jF,jN,jN,jN,jN],.box 47 (stL 2 3 4 x.2),rN x.2.nodes,rT x.2.tms,rS x.2.sgs],[]⟩)
  (fun x=>x.1≤l.length∧Ok12 x.2∧a0M s0 l=a0M x.2 (l.drop x.1)) (fun x=>l.length-x.1) (0,s0) (by kernel_rfl) ⟨Nat.zero_le _,z0v,rfl⟩ ?_
 rintro ⟨i,s⟩ ⟨hi,ho,hF⟩
 dsimp only at hi ho hF
 by_cases hil:i<l.length
 ·rw [a0I hil,a0M] at hF
  have hv:=hf _ (a0L hil)
  have he:=a1d (e:=gt l i) ho
  unfold x0i at he
  obtain ⟨hA,_,_⟩:=ho.fitA
  have hid:=ho.id
  have ho2:=c0t (e:=gt l i) ho hv.2.2.2
  repeat' (with_reducible first|refine Wx.h ?_|refine Wb.h fun K hK=>?_|(refine hK _ ?_;clear hK K)|(refine wT ?_ ?_;assumption)|(refine wF ?_ ?_;assumption)|(refine Wy.h ?_ ?_;kernel_rfl)|refine Wq.h ?_ ?_<;>intro h<;>try (exfalso;omega)|refine Wu.h ?_ ?_<;>intro h<;>try simp only [h]|((fail_if_success refine Wz.h ?_);first|simp (disch:=omega) only [↓LD,LA,a0A,seval,LEv,c0n,a0K,Ev.cs,stL,rN,rT,rS,-a0A,List.map_cons,List.map_nil]|(refine And.intro ?_ ?_;omega)|simp only [D.int,D.bool]))
  refine a0F (w0T s (gt l i) hA hv.1 hv.2.2 ⟨hid.1,by omega⟩) [1,2,3,4] (by kernel_rfl) rfl rfl ?_
  rintro _ _ ⟨rfl,m,rfl⟩
  generalize c0F s (gt l i)=p at he ⊢
  obtain ⟨v,s'⟩:=p
  dsimp only at he ⊢
  rcases m with _|_|_|m
  ·simp (disch:=omega) only [↓LD,LA,a0A,seval,ren,List.getElem?_nil,stM,stH,stL,rN,rT,rS]
   repeat' (with_reducible first|refine Wx.h ?_|refine Wb.h fun K hK=>?_|(refine hK _ ?_;clear hK K)|(refine wT ?_ ?_;assumption)|(refine wF ?_ ?_;assumption)|(refine Wy.h ?_ ?_;kernel_rfl)|refine Wq.h ?_ ?_<;>intro h<;>try (exfalso;omega)|refine Wu.h ?_ ?_<;>intro h<;>try simp only [h]|((fail_if_success refine Wz.h ?_);first|simp (disch:=omega) only [↓LD,LA,a0A,seval]|(refine And.intro ?_ ?_;omega)|simp only [D.int,D.bool]))
   ·have hv0:v=0:=by assumption
    rw [if_pos hv0] at he
    rw [←he] at hF ho2
    rw [if_pos rfl] at hF
    exact Next.mk (i+1,s') (by kernel_rfl) ⟨by dsimp only;omega,ho2 rfl,hF⟩ (by dsimp only;omega)
   ·have hv0:¬ v=0:=by assumption
    rw [if_neg hv0] at he
    rw [←he,if_neg hv0] at hF
    rw [hF]
    exact RetS.still (ds:=[.ag [jI,jI,jI,jI,jF,jN,jN,jN,jN],D.int v]) (by kernel_rfl) (by kernel_rfl) (.tps (.cons (.ags (.cons .f (.cons .f (.cons .f (.cons .f (.cons .f (.cons .nil (.cons .nil (.cons .nil (.cons .nil .nil)))))))))) (.cons .f .nil))) ⟨rfl,rfl⟩
  ·simp (disch:=omega) only [↓LD,LA,a0A,seval,ren,List.getElem?_nil,stM,stH,stL,rN,rT,rS]
   repeat' (with_reducible first|refine Wx.h ?_|refine Wb.h fun K hK=>?_|(refine hK _ ?_;clear hK K)|(refine wT ?_ ?_;assumption)|(refine wF ?_ ?_;assumption)|(refine Wy.h ?_ ?_;kernel_rfl)|refine Wq.h ?_ ?_<;>intro h<;>try (exfalso;omega)|refine Wu.h ?_ ?_<;>intro h<;>try simp only [h]|((fail_if_success refine Wz.h ?_);first|simp (disch:=omega) only [↓LD,LA,a0A,seval]|(refine And.intro ?_ ?_;omega)|simp only [D.int,D.bool]))
   ·have hv0:v=0:=by assumption
    rw [if_pos hv0] at he
    rw [←he] at hF ho2
    rw [if_pos rfl] at hF
    exact Next.mk (i+1,s') (by kernel_rfl) ⟨by dsimp only;omega,ho2 rfl,hF⟩ (by dsimp only;omega)
   ·have hv0:¬ v=0:=by assumption
    rw [if_neg hv0] at he
    rw [←he,if_neg hv0] at hF
    rw [hF]
    exact RetS.still (ds:=[.ag [jI,jI,jI,jI,jF,jN,jN,jN,jN],D.int v]) (by kernel_rfl) (by kernel_rfl) (.tps (.cons (.ags (.cons .f (.cons .f (.cons .f (.cons .f (.cons .f (.cons .nil (.cons .nil (.cons .nil (.cons .nil .nil)))))))))) (.cons .f .nil))) ⟨rfl,rfl⟩
  ·simp (disch:=omega) only [↓LD,LA,a0A,seval,ren,List.getElem?_nil,stM,stH,stL,rN,rT,rS]
   repeat' (with_reducible first|refine Wx.h ?_|refine Wb.h fun K hK=>?_|(refine hK _ ?_;clear hK K)|(refine wT ?_ ?_;assumption)|(refine wF ?_ ?_;assumption)|(refine Wy.h ?_ ?_;kernel_rfl)|refine Wq.h ?_ ?_<;>intro h<;>try (exfalso;omega)|refine Wu.h ?_ ?_<;>intro h<;>try simp only [h]|((fail_if_success refine Wz.h ?_);first|simp (disch:=omega) only [↓LD,LA,a0A,seval]|(refine And.intro ?_ ?_;omega)|simp only [D.int,D.bool]))
   ·have hv0:v=0:=by assumption
    rw [if_pos hv0] at he
    rw [←he] at hF ho2
    rw [if_pos rfl] at hF
    exact Next.mk (i+1,s') (by kernel_rfl) ⟨by dsimp only;omega,ho2 rfl,hF⟩ (by dsimp only;omega)
   ·have hv0:¬ v=0:=by assumption
    rw [if_neg hv0] at he
    rw [←he,if_neg hv0] at hF
    rw [hF]
    exact RetS.still (ds:=[.ag [jI,jI,jI,jI,jF,jN,jN,jN,jN],D.int v]) (by kernel_rfl) (by kernel_rfl) (.tps (.cons (.ags (.cons .f (.cons .f (.cons .f (.cons .f (.cons .f (.cons .nil (.cons .nil (.cons .nil (.cons .nil .nil)))))))))) (.cons .f .nil))) ⟨rfl,rfl⟩
  ·simp (disch:=omega) only [↓LD,LA,a0A,seval,ren,List.getElem?_nil,stM,stH,stL,rN,rT,rS]
   repeat' (with_reducible first|refine Wx.h ?_|refine Wb.h fun K hK=>?_|(refine hK _ ?_;clear hK K)|(refine wT ?_ ?_;assumption)|(refine wF ?_ ?_;assumption)|(refine Wy.h ?_ ?_;kernel_rfl)|refine Wq.h ?_ ?_<;>intro h<;>try (exfalso;omega)|refine Wu.h ?_ ?_<;>intro h<;>try simp only [h]|((fail_if_success refine Wz.h ?_);first|simp (disch:=omega) only [↓LD,LA,a0A,seval]|(refine And.intro ?_ ?_;omega)|simp only [D.int,D.bool]))
   ·have hv0:v=0:=by assumption
    rw [if_pos hv0] at he
    rw [←he] at hF ho2
    rw [if_pos rfl] at hF
    exact Next.mk (i+1,s') (by kernel_rfl) ⟨by dsimp only;omega,ho2 rfl,hF⟩ (by dsimp only;omega)
   ·have hv0:¬ v=0:=by assumption
    rw [if_neg hv0] at he
    rw [←he,if_neg hv0] at hF
    rw [hF]
    exact RetS.still (ds:=[.ag [jI,jI,jI,jI,jF,jN,jN,jN,jN],D.int v]) (by kernel_rfl) (by kernel_rfl) (.tps (.cons (.ags (.cons .f (.cons .f (.cons .f (.cons .f (.cons .f (.cons .nil (.cons .nil (.cons .nil (.cons .nil .nil)))))))))) (.cons .f .nil))) ⟨rfl,rfl⟩
 ·repeat' (with_reducible first|refine Wx.h ?_|refine Wb.h fun K hK=>?_|(refine hK _ ?_;clear hK K)|(refine wT ?_ ?_;assumption)|(refine wF ?_ ?_;assumption)|(refine Wy.h ?_ ?_;kernel_rfl)|refine Wq.h ?_ ?_<;>intro h<;>try (exfalso;omega)|refine Wu.h ?_ ?_<;>intro h<;>try simp only [h]|((fail_if_success refine Wz.h ?_);first|simp (disch:=omega) only [↓LD,LA,a0A,seval,LEv,stL,rN,rT,rS]|(refine And.intro ?_ ?_;omega)|simp only [D.int,D.bool]))
  rw [List.drop_of_length_le (by omega),a0M] at hF
  rw [hF]
  exact RetS.still (ds:=[.ag (stL 2 3 4 s),D.int 0]) (by kernel_rfl) (by kernel_rfl) (.tps (.cons (d1r rfl rfl rfl) (.cons .f .nil))) ⟨rfl,rfl⟩
theorem j0M (s:S12):Con Tryz.prog 181 [jN,.fn 114 [.pt 0 0]] [stF s] fun r H'=>r=D.int (-1)∧H'=[stF s]:=by
 refine Con.walk good d0p (by simp) ?_
 unfold c0o
 simp only [a0J]
 repeat' (with_reducible first|refine Wx.h ?_|refine Wb.h fun K hK=>?_|(refine hK _ ?_;clear hK K)|(refine wT ?_ ?_;assumption)|(refine wF ?_ ?_;assumption)|(refine Wy.h ?_ ?_;kernel_rfl)|refine Wq.h ?_ ?_<;>intro h<;>try (exfalso;omega)|refine Wu.h ?_ ?_<;>intro h<;>try simp only [h]|((fail_if_success refine Wz.h ?_);first|simp (disch:=omega) only [↓LD,LA,a0A,seval]|(refine And.intro ?_ ?_;omega)|simp only [D.int,D.bool]))
 refine HS.loopG [7,8] (fun _:Unit=>⟨frm 19 [(7,jI),(8,jI)],[stF s],[]⟩) (fun _=>True) (fun _=>0) () (by kernel_rfl) trivial ?_
 rintro - -
 repeat' (with_reducible first|refine Wx.h ?_|refine Wb.h fun K hK=>?_|(refine hK _ ?_;clear hK K)|(refine wT ?_ ?_;assumption)|(refine wF ?_ ?_;assumption)|(refine Wy.h ?_ ?_;kernel_rfl)|refine Wq.h ?_ ?_<;>intro h<;>try (exfalso;omega)|refine Wu.h ?_ ?_<;>intro h<;>try simp only [h]|((fail_if_success refine Wz.h ?_);first|simp (disch:=omega) only [↓LD,LA,a0A,seval]|(refine And.intro ?_ ?_;omega)|simp only [D.int,D.bool]))
 exact end1 rfl rfl (by kernel_rfl) .f ⟨rfl,rfl⟩
theorem h0U (s:S12):Con Tryz.prog 113 [jN,.fn 114 [.pt 0 0]] [stF s] fun r H'=>r=jN∧H'=[stF s]:=by
 refine Con.walk good d0f (by simp) ?_
 unfold c0Y
 simp only [a0J]
 repeat' (with_reducible first|refine Wx.h ?_|refine Wb.h fun K hK=>?_|(refine hK _ ?_;clear hK K)|(refine wT ?_ ?_;assumption)|(refine wF ?_ ?_;assumption)|(refine Wy.h ?_ ?_;kernel_rfl)|refine Wq.h ?_ ?_<;>intro h<;>try (exfalso;omega)|refine Wu.h ?_ ?_<;>intro h<;>try simp only [h]|((fail_if_success refine Wz.h ?_);first|simp (disch:=omega) only [↓LD,LA,a0A,seval]|(refine And.intro ?_ ?_;omega)|simp only [D.int,D.bool]))
 refine a0F (j0M s) [0] (by kernel_rfl) rfl rfl ?_
 rintro _ _ ⟨rfl,rfl⟩
 simp (disch:=omega) only [↓LD,LA,a0A,seval,ren,List.getElem?_nil,stF]
 repeat' (with_reducible first|refine Wx.h ?_|refine Wb.h fun K hK=>?_|(refine hK _ ?_;clear hK K)|(refine wT ?_ ?_;assumption)|(refine wF ?_ ?_;assumption)|(refine Wy.h ?_ ?_;kernel_rfl)|refine Wq.h ?_ ?_<;>intro h<;>try (exfalso;omega)|refine Wu.h ?_ ?_<;>intro h<;>try simp only [h]|((fail_if_success refine Wz.h ?_);first|simp (disch:=omega) only [↓LD,LA,a0A,seval]|(refine And.intro ?_ ?_;omega)|simp only [D.int,D.bool]))
 exact end1 rfl rfl (by kernel_rfl) .f ⟨rfl,rfl⟩
instance {l:List Ev}{H:List Row}{K:D→List Row→Prop}[hl:Kn (FitL l)]:Wa (a0S Tryz.prog (.fn 42 []) [.f (fEv l)] H K)
  (K (.tp [sA (a0M s0 l).2,.f (.v (.int .i64 (a0M s0 l).1))]) H):=⟨fun h=>a0C (y0w l hl.h.1 hl.h.2) rfl rfl rfl h⟩
def misL (t:Br):List Ev:=(allL (sigM t)).filter fun e=>!hadB (a0M s0 (curL t)).2 e
set_option maxRecDepth 100000 in
theorem o0o (t:Br)(ht:TrK t)(hs:∀ e∈sigM t,FitV e∧e.name.length≤100000)(hsl:(sigM t).length≤1000000):Con Tryz.prog 45 [.ag [.f (fBr t)]] [] fun r H'=>∃ xs,r = .f (.s ((misL t).flatMap Ev.cs++xs) (misL t).length)∧H'=[]:=by
 haveI:Kn (TrK t):=⟨ht⟩
 haveI:Kn (FitL (curL t)):=⟨ht.cur.fitL⟩
 have hsg:=ht.cur.ok.wk.fit.fit.sgs
 have hA:=t0j t ht hs hsl
 refine Con.walk good o0D (by simp) ?_
 unfold h0B misL
 simp only [a0J]
 have hal:(allL (sigM t)).length≤1000000:=by unfold allL;rw [List.length_map,(c0W _).length_eq,List.length_map];exact hsl
 repeat' (with_reducible first|refine Wx.h ?_|refine Wb.h fun K hK=>?_|(refine hK _ ?_;clear hK K)|(refine wT ?_ ?_;assumption)|(refine wF ?_ ?_;assumption)|(refine Wy.h ?_ ?_;kernel_rfl)|refine Wq.h ?_ ?_<;>intro h<;>try (exfalso;omega)|refine Wu.h ?_ ?_<;>intro h<;>try simp only [h]|((fail_if_success refine Wz.h ?_);first|simp (disch:=omega) only [↓LD,LA,a0A,seval,LBr]|(refine And.intro ?_ ?_;omega)|simp only [D.int,D.bool]))
 by_cases hz:(allL (sigM t)).length=0
 ·rw [alR,if_pos hz,alH,if_pos hz] at hA
  have hm:((allL (sigM t)).filter fun e=>!hadB (a0M s0 (curL t)).2 e).length=0:=by rw [List.eq_nil_of_length_eq_zero hz];rfl
  refine a0C hA rfl rfl rfl ?_
  repeat' (with_reducible first|refine Wx.h ?_|refine Wb.h fun K hK=>?_|(refine hK _ ?_;clear hK K)|(refine wT ?_ ?_;assumption)|(refine wF ?_ ?_;assumption)|(refine Wy.h ?_ ?_;kernel_rfl)|refine Wq.h ?_ ?_<;>intro h<;>try (exfalso;omega)|refine Wu.h ?_ ?_<;>intro h<;>try simp only [h]|((fail_if_success refine Wz.h ?_);first|simp (disch:=omega) only [↓LD,LA,a0A,seval,LBr]|(refine And.intro ?_ ?_;omega)|simp only [D.int,D.bool]))
  refine a0F (h0U (a0M s0 (curL t)).2) [1] (by kernel_rfl) rfl rfl ?_
  rintro _ _ ⟨rfl,rfl⟩
  simp (disch:=omega) only [↓LD,LA,a0A,seval,ren,List.getElem?_nil,stF]
  repeat' (with_reducible first|refine Wx.h ?_|refine Wb.h fun K hK=>?_|(refine hK _ ?_;clear hK K)|(refine wT ?_ ?_;assumption)|(refine wF ?_ ?_;assumption)|(refine Wy.h ?_ ?_;kernel_rfl)|refine Wq.h ?_ ?_<;>intro h<;>try (exfalso;omega)|refine Wu.h ?_ ?_<;>intro h<;>try simp only [h]|((fail_if_success refine Wz.h ?_);first|simp (disch:=omega) only [↓LD,LA,a0A,seval,LBr]|(refine And.intro ?_ ?_;omega)|simp only [D.int,D.bool]))
  exact end1 rfl rfl (by kernel_rfl) .nil ⟨[],by rw [List.eq_nil_of_length_eq_zero hm];rfl,rfl⟩
 ·rw [alR,if_neg hz,alH,if_neg hz] at hA
  refine a0F hA [] (by kernel_rfl) rfl rfl ?_
  rintro _ _ ⟨rfl,rfl⟩
  simp (disch:=omega) only [↓LD,LA,a0A,seval,ren,List.getElem?_nil,rEv]
  repeat' (with_reducible first|refine Wx.h ?_|refine Wb.h fun K hK=>?_|(refine hK _ ?_;clear hK K)|(refine wT ?_ ?_;assumption)|(refine wF ?_ ?_;assumption)|(refine Wy.h ?_ ?_;kernel_rfl)|refine Wq.h ?_ ?_<;>intro h<;>try (exfalso;omega)|refine Wu.h ?_ ?_<;>intro h<;>try simp only [h]|((fail_if_success refine Wz.h ?_);first|simp (disch:=omega) only [↓LD,LA,a0A,seval,LBr]|(refine And.intro ?_ ?_;omega)|simp only [D.int,D.bool]))
  refine a0F (i0Z (allL (sigM t)) (a0M s0 (curL t)).2 hz hal hsg) [2,1] (by kernel_rfl) rfl rfl ?_
  rintro _ _ ⟨xs,rfl,rfl⟩
  by_cases hm:((allL (sigM t)).filter fun e=>!hadB (a0M s0 (curL t)).2 e).length=0
  ·rw [if_pos hm]
   simp (disch:=omega) only [↓LD,LA,a0A,seval,ren,List.getElem?_nil,stF]
   repeat' (with_reducible first|refine Wx.h ?_|refine Wb.h fun K hK=>?_|(refine hK _ ?_;clear hK K)|(refine wT ?_ ?_;assumption)|(refine wF ?_ ?_;assumption)|(refine Wy.h ?_ ?_;kernel_rfl)|refine Wq.h ?_ ?_<;>intro h<;>try (exfalso;omega)|refine Wu.h ?_ ?_<;>intro h<;>try simp only [h]|((fail_if_success refine Wz.h ?_);first|simp (disch:=omega) only [↓LD,LA,a0A,seval,LBr]|(refine And.intro ?_ ?_;omega)|simp only [D.int,D.bool]))
   exact end1 rfl rfl (by kernel_rfl) .f ⟨[],by rw [List.eq_nil_of_length_eq_zero hm];rfl,rfl⟩
  ·rw [if_neg hm]
   simp (disch:=omega) only [↓LD,LA,a0A,seval,ren,List.getElem?_nil,stF]
   repeat' (with_reducible first|refine Wx.h ?_|refine Wb.h fun K hK=>?_|(refine hK _ ?_;clear hK K)|(refine wT ?_ ?_;assumption)|(refine wF ?_ ?_;assumption)|(refine Wy.h ?_ ?_;kernel_rfl)|refine Wq.h ?_ ?_<;>intro h<;>try (exfalso;omega)|refine Wu.h ?_ ?_<;>intro h<;>try simp only [h]|((fail_if_success refine Wz.h ?_);first|simp (disch:=omega) only [↓LD,LA,a0A,seval,LBr]|(refine And.intro ?_ ?_;omega)|simp only [D.int,D.bool]))
   exact end1 rfl rfl (by kernel_rfl) (.sl (T:=42) (xs:=((allL (sigM t)).filter fun e=>!hadB (a0M s0 (curL t)).2 e).flatMap Ev.cs++xs) rfl (fun e=>absurd e hm)) ⟨xs,rfl,rfl⟩
theorem w0G {t:Br}(ht:TrK t):∀ e∈sigM t,FitV e∧e.name.length≤100000:=fun e he=>by
 obtain ⟨h7,b,hb,heb⟩:=(z0r t).mem e he
 have ok:=(ht.ok b hb).1
 have hr:=(rightE_iff.1 (ok.right heb)).2.2.2.2.2.2.1
 rw [if_pos (by omega)] at hr
 exact ⟨ok.fit e heb,by have:=n0w hr;omega⟩
theorem l0V:∀ {l:List Ev} {ms:List Ev},(l.foldl addS ms).length≤ms.length+l.length
 | [],ms=>by simp
 | e :: l,ms=>by
  have h1:=l0V (l:=l) (ms:=addS ms e)
  have h2:=b1e (ms:=ms) (e:=e)
  rw [List.foldl_cons,List.length_cons];omega
theorem l0Q:∀ {l:Br} {ms:List Ev},(∀ b∈l,b.length≤200)→(l.foldl (fun ms b=>b.foldl addS ms) ms).length≤ms.length+200*l.length
 | [],ms,_=>by simp
 | b :: l,ms,h=>by
  have h1:=l0Q (l:=l) (ms:=b.foldl addS ms) fun x hx=>h x (by simp [hx])
  have h2:=l0V (l:=b) (ms:=ms)
  have h3:=h b (by simp)
  rw [List.foldl_cons,List.length_cons];omega
theorem n0v {t:Br}(ht:TrK t):(sigM t).length≤1000000:=by
 have h:=l0Q (l:=t) (ms:=[]) fun b hb=>(ht.ok b hb).1.len
 have:=ht.len
 unfold sigM
 simp only [List.length_nil] at h
 omega
theorem Con.vw {P:Program}{f:FuncId}{args:List D}{Q Q':D→List Row→Prop}(h:Con P f args [] Q)(hq:∀ d H',Q d H'→∃ d0,Vw H' d d0∧Q' d0 []):Con P f args [] Q' :=
 ⟨h.1,fun w φ X vs hH ha=>(h.2 w φ X vs hH ha).mono fun _ _ ⟨v,d,H1,h1,h2,φ',ho,hr,hv⟩=>by
  obtain ⟨d0,hw,hq'⟩:=hq d H1 h2
  have hA:∀ b,Av X φ' [] b→X b:=by
   rintro b (hb|⟨r,x,hx,_⟩)
   ·exact hb
   ·simp at hx
  exact ⟨v,d0,[],h1,hq',φ',⟨Nat.le_refl _,ho.same,ho.keep,fun b hb=>by obtain ⟨r,x,hx,_⟩:=hb;simp at hx⟩,⟨fun r x hx=>by simp at hx,fun r s x y hx=>by simp at hx,fun r x hx=>by simp at hx,hr.old,fun p hp=>(hr.gl p hp).thin fun b hb=>.inl (hA b hb)⟩,hw.ok hr hA v hv⟩⟩
theorem RF.trim {w:World}{A:Nat→Prop}{a b x:List F}{n:Nat}{u:Value}(h:RF w A (.s x n) u)(hx:x=a++b):RF w A (.s a n) u:=by
 cases h with
 | s cs h1 h2 h3 h4 =>
  subst hx
  refine .s (cs.take a.length) h1 (by rw [List.length_take,h2,List.length_append];omega) (fun i u hu=>?_) (fun i y u hy hu=>?_)
  ·rw [List.getElem?_take] at hu
   split at hu
   ·exact h3 i u hu
   ·cases hu
  ·rw [List.getElem?_take] at hu
   split at hu
   ·exact h4 i y u (by rw [List.getElem?_append_left (by assumption)];exact hy) hu
   ·cases hu
 | s0 =>
  have:a=[]:=(List.append_eq_nil_iff.1 hx.symm).1
  subst this
  exact .s0
theorem Con.trim {P:Program}{f:FuncId}{args:List D}{H H0:List Row}{A:List F}{n:Nat}(h:Con P f args H fun r h'=>∃ xs,r = .f (.s (A++xs) n)∧h'=H0):Con P f args H fun r h'=>r = .f (.s A n)∧h'=H0 :=
 ⟨h.1,fun w φ X vs hH ha=>(h.2 w φ X vs hH ha).mono fun _ _ ⟨v,d,H1,h1,⟨xs,h2,h3⟩,φ',ho,hr,hv⟩=>by
  subst h2
  refine ⟨v,_,H1,h1,⟨rfl,h3⟩,φ',ho,hr,?_⟩
  cases hv with|f hv=>exact .f (hv.trim rfl)⟩
theorem a1e (t:Br)(ht:TrK t):Con Tryz.prog 47 [.ag [.f (fBr t)]] [] fun r H'=>r = .f (fEv (allL (sigM t)))∧H'=[] :=
 (t0j t ht (w0G ht) (n0v ht)).vw fun d H' ⟨h1,h2⟩=>by
  refine ⟨_,?_,rfl,rfl⟩
  subst h1 h2
  unfold alR alH
  by_cases hz:(allL (sigM t)).length=0
  ·rw [if_pos hz,if_pos hz,List.eq_nil_of_length_eq_zero hz];exact .nil
  ·rw [if_neg hz,if_neg hz];exact x0R rfl rfl rfl
theorem n0Z (t:Br)(ht:TrK t):Con Tryz.prog 45 [.ag [.f (fBr t)]] [] fun r H'=>r = .f (fEv (misL t))∧H'=[]:=(o0o t ht (w0G ht) (n0v ht)).trim
instance {t:Br}{H:List Row}{K:D→List Row→Prop}[ht:Kn (TrK t)]:Wa (a0S Tryz.prog (.fn 47 []) [.ag [.f (fBr t)]] H K) (K (.f (fEv (allL (sigM t)))) H):=⟨fun h=>a0C (a1e t ht.h) rfl rfl rfl h⟩
instance {t:Br}{H:List Row}{K:D→List Row→Prop}[ht:Kn (TrK t)]:Wa (a0S Tryz.prog (.fn 45 []) [.ag [.f (fBr t)]] H K) (K (.f (fEv (misL t))) H):=⟨fun h=>a0C (n0Z t ht.h) rfl rfl rfl h⟩
theorem t0J {t:Br}(ht:TrK t):(allL (sigM t)).length≤1000000:=by
 have h3:=n0v ht
 unfold allL;rw [List.length_map,(c0W _).length_eq,List.length_map];exact h3
theorem v0q {t:Br}(ht:TrK t):(misL t).length≤1000000:=by
 have h1:=List.length_filter_le (fun e=>!hadB (a0M s0 (curL t)).2 e) (allL (sigM t))
 have:=t0J ht
 unfold misL;omega
def s0k (t:Br):List Bs:=if (a0M s0 (curL t)).2.closed=0 then [] else (misL t).map (·.name)
theorem f1i {H:List Row}{r n:Nat}{xs:List F}{l:List Bs}(hr:H[r]?=some (.data 9 xs))(hx:xs=l.map fun k=>F.v (.string (BB k)))(hn:n=l.length):Vw H (.sl r 0 n) (.f (fNm l)):=by
 subst hx;subst hn
 exact .sl hr (fun e=>by rw [List.eq_nil_of_length_eq_zero e];rfl)
set_option maxRecDepth 100000 in
theorem o0y (t:Br)(ht:TrK t):Con Tryz.prog 56 [.ag [.f (fBr t)]] [] fun r H'=>r = .f (fNm (s0k t))∧H'=[]:=by
 haveI:Kn (TrK t):=⟨ht⟩
 haveI:Kn (FitL (curL t)):=⟨ht.cur.fitL⟩
 have hml:=v0q ht
 refine Con.walk good n0z (by simp) ?_
 unfold h0H s0k
 simp only [a0J]
 by_cases hz:(a0M s0 (curL t)).2.closed=0
 ·rw [if_pos hz]
  repeat' (with_reducible first|refine Wx.h ?_|refine Wb.h fun K hK=>?_|(refine hK _ ?_;clear hK K)|(refine wT ?_ ?_;assumption)|(refine wF ?_ ?_;assumption)|(refine Wy.h ?_ ?_;kernel_rfl)|refine Wq.h ?_ ?_<;>intro h<;>try (exfalso;omega)|refine Wu.h ?_ ?_<;>intro h<;>try simp only [h]|((fail_if_success refine Wz.h ?_);first|simp (disch:=omega) only [↓LD,LA,a0A,seval,LBr,stF]|(refine And.intro ?_ ?_;omega)|simp only [D.int,D.bool]))
  exact end1 rfl rfl (by kernel_rfl) .nil ⟨rfl,rfl⟩
 rw [if_neg hz]
 generalize hm:misL t=m at *
 repeat' (with_reducible first|refine Wx.h ?_|refine Wb.h fun K hK=>?_|(refine hK _ ?_;clear hK K)|(refine wT ?_ ?_;assumption)|(refine wF ?_ ?_;assumption)|(refine Wy.h ?_ ?_;kernel_rfl)|refine Wq.h ?_ ?_<;>intro h<;>try (exfalso;omega)|refine Wu.h ?_ ?_<;>intro h<;>try simp only [h]|((fail_if_success refine Wz.h ?_);first|simp (disch:=omega) only [↓LD,LA,a0A,seval,LBr,LEv,stF,hm]|(refine And.intro ?_ ?_;omega)|simp only [D.int,D.bool]))
 refine HS.view (View.void 9) ?_
 refine HS.view (View.slot 3 (.sl 2 0 0) (.no (by show 2<3;omega))) ?_
 refine HS.loopG [3,18,19,20] (fun i:Nat=>⟨frm 31 [(3,.sl 0 0 i),(18,.f (fEv m)),(19,D.int m.length),(20,D.int i)],[.data 9 (((m.take i).map (·.name)).map fun k=>F.v (.string (BB k)))],[]⟩) (fun i=>i≤m.length) (fun i=>m.length-i) 0 (by kernel_rfl) (Nat.zero_le _) ?_
 rintro i hi
 by_cases hil:i<m.length
 ·have hlen:(((m.take i).map (·.name)).map fun k=>F.v (.string (BB k))).length=i:=by simp;omega
  have ha:(((m.take i).map (·.name)).map fun k=>F.v (.string (BB k)))++[F.v (.string (BB (gt m i).name))]=(((m.take (i+1)).map (·.name)).map fun k=>F.v (.string (BB k))):=by
   rw [List.take_succ_eq_append_getElem hil,List.map_append,List.map_append,←b0N hil];rfl
  repeat' (with_reducible first|refine Wx.h ?_|refine Wb.h fun K hK=>?_|(refine hK _ ?_;clear hK K)|(refine wT ?_ ?_;assumption)|(refine wF ?_ ?_;assumption)|(refine Wy.h ?_ ?_;kernel_rfl)|refine Wq.h ?_ ?_<;>intro h<;>try (exfalso;omega)|refine Wu.h ?_ ?_<;>intro h<;>try simp only [h]|((fail_if_success refine Wz.h ?_);first|simp (disch:=omega) only [↓LD,LA,a0A,seval,LEv,c0n,a0K,Ev.cs,hlen,ha,List.map_cons,List.map_nil,-a0A]|(refine And.intro ?_ ?_;omega)|simp only [D.int,D.bool]))
  exact Next.mk (i+1) (by kernel_rfl) (by omega) (by omega)
 ·rw [List.take_of_length_le (by omega)]
  obtain rfl:i=m.length:=by omega
  repeat' (with_reducible first|refine Wx.h ?_|refine Wb.h fun K hK=>?_|(refine hK _ ?_;clear hK K)|(refine wT ?_ ?_;assumption)|(refine wF ?_ ?_;assumption)|(refine Wy.h ?_ ?_;kernel_rfl)|refine Wq.h ?_ ?_<;>intro h<;>try (exfalso;omega)|refine Wu.h ?_ ?_<;>intro h<;>try simp only [h]|((fail_if_success refine Wz.h ?_);first|simp (disch:=omega) only [↓LD,LA,a0A,seval]|(refine And.intro ?_ ?_;omega)|simp only [D.int,D.bool]))
  exact end1 rfl rfl (by kernel_rfl) (f1i rfl rfl (by simp)) ⟨rfl,rfl⟩
instance {t:Br}{H:List Row}{K:D→List Row→Prop}[ht:Kn (TrK t)]:Wa (a0S Tryz.prog (.fn 56 []) [.ag [.f (fBr t)]] H K) (K (.f (fNm (s0k t))) H):=⟨fun h=>a0C (o0y t ht.h) rfl rfl rfl h⟩
theorem q0L {a:Bs}:(BB a).toList=a:=by rw [ByteArray.toList_eq];rfl
theorem c0k:∀ (x y:Bs),Op.bytesLess x y=decide (x<y)
 | [],[]=>by simp [Op.bytesLess]
 | _ :: _,[]=>by simp [Op.bytesLess]
 | [],_ :: _=>by simp [Op.bytesLess]
 | a :: x,b :: y=>by
  rw [Op.bytesLess,c0k x y]
  simp only [List.cons_lt_cons_iff]
  by_cases h1:a<b<;>by_cases h2:a=b<;>by_cases h3:x<y<;>simp [h1,h2,h3]
theorem ltB {a b:Bs}:(Op.bytesLess (BB a).toList (BB b).toList=true)=(a<b):=by rw [q0L,q0L,c0k,decide_eq_true_eq]
theorem z0G {a b:Bs}(h:leS a b=true)(hn:a≠b):a<b:=by
 rw [g0k,decide_eq_true_eq] at h
 have h2:=x0u a b
 have h3:¬ b<a:=h
 rw [c0k,c0k,decide_eq_false h3] at h2
 simpa [hn] using h2
theorem z0x {ms:List Ev}(h:(ms.map (·.name)).Nodup):(b0V ms).Pairwise (· < ·):=by
 have h1:(b0V ms).Pairwise (fun a b=>leS a b=true):=c0q (fun a b c=>by
   rw [g0k,g0k,g0k,decide_eq_true_eq,decide_eq_true_eq,decide_eq_true_eq];exact List.le_trans) (fun a b=>by
   rw [g0k,g0k,Bool.or_eq_true,decide_eq_true_eq,decide_eq_true_eq];exact List.le_total a b) _
 have h2:(b0V ms).Nodup:=(c0W ms).nodup_iff.2 h
 exact (h1.and h2).imp fun ⟨ha,hb⟩=>z0G ha hb
theorem y0T (t:Br):((allL (sigM t)).map (·.name)).Pairwise (· < ·):=by rw [w0W];exact z0x (z0r t).nd
theorem e1K (t:Br):((misL t).map (·.name)).Pairwise (· < ·):=(y0T t).sublist (List.filter_sublist.map _)
theorem f1b {l:List Ev}(h:(l.map (·.name)).Pairwise (· < ·)){i:Nat}(hi:i+1<l.length):(gt l i).name<(gt l (i+1)).name:=by
 have:=List.pairwise_iff_getElem.1 h i (i+1) (by rw [List.length_map];omega) (by rw [List.length_map];omega) (by omega)
 rw [List.getElem_map,List.getElem_map] at this
 rw [b0N (by omega),b0N (by omega)]
 exact this
def extS:Ext:=fun f=>match Nat.beq f 116 with
 | true=>some (n0y 203 9 sortS)
 | false=>none
theorem e1H:∀ f g,extS f=some g→e0V Tryz.prog f g:=by
 intro f g h
 unfold extS at h
 split at h
 ·rename_i hf
  obtain rfl:=Nat.eq_of_beq_eq_true hf
  cases h
  exact k0c
 ·cases h
theorem c1G:v0t (runF Tryz.prog extS 60 46 [] [])=true:=by kernel_rfl
theorem w0R:Con Tryz.prog 46 [] [] fun r H'=>r=D.bool true∧H'=[] :=
 (Con.run good e1H (c1O (by kernel_rfl)) (q0g (by rw [←e1T];exact c1G))).mono fun _ _ h=>h
instance {H:List Row}{K:D→List Row→Prop}:Wa (a0S Tryz.prog (.fn 46 []) [] H K) (K (.f (.v (.bool true))) H):=⟨fun h=>a0C w0R rfl rfl rfl h⟩
def c0l:SCode :=
  (jq ([.a 1 (.box 26 (.t 0)),.a 2 (.mv kF)]) (jq ((ap [jL 11 3 1,.a 12 (.call (kC 17) [(.t 11)])] [.a 3 (.alloc 29 [jN]),.n (.store 1 (.t 3) (.t
 12))])) (jq ([jo 13 0 3,jl 14 13,.a 15 (.bld [jN] [(0,1,(.t 14))]),.a 4 (.alloc 57 [jN]),.n (.store 1 (.t 4) (.t 15))]) (jq ((ap [jL 16 1 4,.a
 17 (.call (kC 47) [(.t 16)])] [jm 5 17])) (jq ((ap [jL 18 1 4,.a 19 (.call (kC 45) [(.t 18)])] [jm 6 19])) (jq ((ap [jL 20 1 4,.a 21 (.call (kC 56)
 [(.t 20)])] [jm 7 21])) (.seq (jq ([jk 8 1]) (.block 0 (.loop (.seq (jq ([jm 22 8,jm 23 5,je 24 23,jB 25 .lss 22 24]) (jc 25 .skip (.exit 0))) (.seq
 (.block 1 (.seq (.drw [jm 28 5,jm 29 8,jx 30 9 28 29,jo 31 6 30,jl 32 31,jm 33 5,jm 34 8,jb 35 .sub 34 1,jx 36 9 33 35,jo 37 6 36,jl 38 37,
 jB 39 .leq 32 38] [0,0,3,7,15,0,0,64,224,480,992,2047]) (jc 39 (jq ([.a 2 (.mv kF)]) .ret) .skip))) (.ops [jm 26 8,jb 27 .add 26 1,jm 8
 27])))))) (.seq (jq ([jk 9 1]) (.block 2 (.loop (.seq (jq ([jm 40 9,jm 41 6,je 42 41,jB 43 .lss 40 42]) (jc 43 .skip (.exit 2))) (.seq (.block 3
 (.seq (.drw [jm 46 6,jm 47 9,jx 48 9 46 47,jo 49 6 48,jl 50 49,jm 51 6,jm 52 9,jb 53 .sub 52 1,jx 54 9 51 53,jo 55 6 54,jl 56 55,jB 57 .leq
 50 56] [0,0,3,7,15,0,0,64,224,480,992,2047]) (jc 57 (jq ([.a 2 (.mv kF)]) .ret) .skip))) (.ops [jm 44 9,jb 45 .add 44 1,jm 9 45]))))))
 (.seq (jq ((ap [jm 58 7,je 59 58,jb 60 .neq 59 0] (ap [jm 61 60,gM 62 7 61 true] (ap [jG 63 (.slen (.t 62)) 61 true,gM 64 6 61 true,jG 65 (.slen
 (.t 64)) 61 true,jG 66 (.bin .neq (.t 63) (.t 65)) 61 true] [.a 67 (.pick (.t 61) (.t 66) kF)])))) (jc 67 (jq ([.a 2 (.mv kF)]) .ret) .skip)) (.seq
 (jq ([jk 10 0]) (.block 4 (.loop (.seq (jq ([jm 68 10,jm 69 7,je 70 69,jB 71 .lss 68 70]) (jc 71 .skip (.exit 4))) (.seq (.block 5 (.seq (.drw [jm
 74 7,jm 75 10,jx 76 1 74 75,jl 77 76,jm 78 6,jm 79 10,jx 80 9 78 79,jo 81 6 80,jl 82 81,jB 83 .neq 77 82] [0,0,3,7,0,0,48,112,240,
 511]) (jc 83 (jq ([.a 2 (.mv kF)]) .ret) .skip))) (.ops [jm 72 10,jb 73 .add 72 1,jm 10 73])))))) (jq ((ap [.a 84 (.call (kC 46) [])] (ap [jm 85 84,
 gM 86 6 85 true] (ap [jG 87 (.slen (.t 86)) 85 true,gM 88 5 85 true,jG 89 (.slen (.t 88)) 85 true,jG 90 (.bin .leq (.t 87) (.t 89)) 85 true] [.a 91
 (.pick (.t 85) (.t 90) kF),jm 2 91])))) .ret)))))))))))
theorem e0l:Fn Tryz.prog 10 92 [.t 2] c0l:=.of Tryz.func10 (by kernel_rfl)
theorem at6n {g:List Ev}{k:Nat}(hk:k<g.length):(g.flatMap Ev.cs)[k*9+6]?=some (F.v (.string (BB (gt g k).name))):=a0s (j:=6) Ev.cs_len hk (by omega)
theorem f1G {l:List Bs}{k:Nat}(hk:k<l.length):(l.map fun k=>F.v (.string (BB k)))[k*1]?=some (F.v (.string (BB (gt l k)))):=by rw [Nat.mul_one,List.getElem?_map,List.getElem?_eq_getElem hk,←b0N hk];rfl
set_option maxRecDepth 100000 in
theorem c_law_SignalsOrder (s:List (List Rw))(a:List Int)(d:List Rd):Con Tryz.prog 10 [lnD s a d] [] fun r H'=>r = .f (.v (.bool true))∧H'=[]:=by
 have ht:=b1p s a d
 refine Con.walk good e0l (by simp) ?_
 unfold c0l lnD
 simp only [a0J]
 have hA:=y0T (e0U s a d)
 have hM:=e1K (e0U s a d)
 have hAl:=t0J ht
 have hMl:=v0q ht
 have hMA:(misL (e0U s a d)).length≤(allL (sigM (e0U s a d))).length:=List.length_filter_le _ _
 have hD:s0k (e0U s a d)=[]∨s0k (e0U s a d)=(misL (e0U s a d)).map (·.name):=by unfold s0k;split<;>simp
 haveI:Kn (TrK (e0U s a d)):=⟨ht⟩
 repeat' (with_reducible first|refine Wx.h ?_|refine Wb.h fun K hK=>?_|(refine hK _ ?_;clear hK K)|(refine wT ?_ ?_;assumption)|(refine wF ?_ ?_;assumption)|(refine Wy.h ?_ ?_;kernel_rfl)|refine Wq.h ?_ ?_<;>intro h<;>try (exfalso;omega)|refine Wu.h ?_ ?_<;>intro h<;>try simp only [h]|((fail_if_success refine Wz.h ?_);first|simp (disch:=omega) only [↓LD,LA,a0A,seval,LBr,LSs]|(refine And.intro ?_ ?_;omega)|simp only [D.int,D.bool]))
 clear ht
 generalize allL (sigM (e0U s a d))=A at *
 generalize misL (e0U s a d)=M at *
 generalize s0k (e0U s a d)=X at *
 refine HS.loopG [2,5,6,7,8] (fun i:Nat=>⟨frm 92 [(2,D.bool false),(5,.f (fEv A)),(6,.f (fEv M)),(7,.f (fNm X)),(8,D.int (i+1:Nat))],[],[]⟩) (fun i=>i≤A.length) (fun i=>A.length-i) 0 (by kernel_rfl) (Nat.zero_le _) ?_
 rintro i hi
 by_cases hil:i+1<A.length
 ·have hlt:=ltB.symm ▸ f1b hA hil
  have e1:=at6n (g:=A) (k:=i+1) hil
  have e2:=at6n (g:=A) (k:=i) (by omega)
  have e3:(((i+1:Nat):Int)-1).toNat=i:=by omega
  repeat' (with_reducible first|refine Wx.h ?_|refine We.h fun K hK=>?_|refine Wd.h fun K M hK hM=>?_|(refine hK _ _ _ _ ?_;clear hK K;try clear hM M)|(refine hM ?_;clear hM M;try clear hK K)|refine Wb.h fun K hK=>?_|(refine hK _ ?_;clear hK K)|(refine wT ?_ ?_;assumption)|(refine wF ?_ ?_;assumption)|(refine Wy.h ?_ ?_;kernel_rfl)|refine Wq.h ?_ ?_<;>intro h<;>try (exfalso;omega)|refine Wu.h ?_ ?_<;>intro h<;>try simp only [h]|((fail_if_success refine Wz.h ?_);first|simp (disch:=omega) only [↓LD,LA,a0A,seval,LEv,a0K,e1,e2,e3]|(refine And.intro ?_ ?_;omega)|simp only [D.int,D.bool]))
  exact Next.mk (i+1) (by kernel_rfl) (by omega) (by omega)
 repeat' (with_reducible first|refine Wx.h ?_|refine Wb.h fun K hK=>?_|(refine hK _ ?_;clear hK K)|(refine wT ?_ ?_;assumption)|(refine wF ?_ ?_;assumption)|(refine Wy.h ?_ ?_;kernel_rfl)|refine Wq.h ?_ ?_<;>intro h<;>try (exfalso;omega)|refine Wu.h ?_ ?_<;>intro h<;>try simp only [h]|((fail_if_success refine Wz.h ?_);first|simp (disch:=omega) only [↓LD,LA,a0A,seval,LEv]|(refine And.intro ?_ ?_;omega)|simp only [D.int,D.bool]))
 clear hi hil
 refine HS.loopG [2,5,6,7,9] (fun i:Nat=>⟨frm 92 [(2,D.bool false),(5,.f (fEv A)),(6,.f (fEv M)),(7,.f (fNm X)),(9,D.int (i+1:Nat))],[],[]⟩) (fun i=>i≤M.length) (fun i=>M.length-i) 0 (by kernel_rfl) (Nat.zero_le _) ?_
 rintro i hi
 by_cases hil:i+1<M.length
 ·have hlt:=ltB.symm ▸ f1b hM hil
  have e1:=at6n (g:=M) (k:=i+1) hil
  have e2:=at6n (g:=M) (k:=i) (by omega)
  have e3:(((i+1:Nat):Int)-1).toNat=i:=by omega
  repeat' (with_reducible first|refine Wx.h ?_|refine We.h fun K hK=>?_|refine Wd.h fun K M hK hM=>?_|(refine hK _ _ _ _ ?_;clear hK K;try clear hM M)|(refine hM ?_;clear hM M;try clear hK K)|refine Wb.h fun K hK=>?_|(refine hK _ ?_;clear hK K)|(refine wT ?_ ?_;assumption)|(refine wF ?_ ?_;assumption)|(refine Wy.h ?_ ?_;kernel_rfl)|refine Wq.h ?_ ?_<;>intro h<;>try (exfalso;omega)|refine Wu.h ?_ ?_<;>intro h<;>try simp only [h]|((fail_if_success refine Wz.h ?_);first|simp (disch:=omega) only [↓LD,LA,a0A,seval,LEv,a0K,e1,e2,e3]|(refine And.intro ?_ ?_;omega)|simp only [D.int,D.bool]))
  exact Next.mk (i+1) (by kernel_rfl) (by omega) (by omega)
 have hXl:X.length=0∨X.length=M.length:=by
  rcases hD with h|h
  ·exact .inl (by rw [h];rfl)
  ·exact .inr (by rw [h,List.length_map])
 have hX:∀ i,i<X.length→gt X i=(gt M i).name:=fun i h=>by
  rcases hD with h2|h2
  ·rw [h2] at h;simp at h
  ·rw [h2,List.length_map] at h
   rw [h2,b0N (by rw [List.length_map];exact h),b0N h,List.getElem_map]
 clear hD
 repeat' (with_reducible first|refine Wx.h ?_|refine Wb.h fun K hK=>?_|(refine hK _ ?_;clear hK K)|(refine wT ?_ ?_;assumption)|(refine wF ?_ ?_;assumption)|(refine Wy.h ?_ ?_;kernel_rfl)|refine Wq.h ?_ ?_<;>intro h<;>try (exfalso;omega)|refine Wu.h ?_ ?_<;>intro h<;>try simp only [h]|((fail_if_success refine Wz.h ?_);first|simp (disch:=omega) only [↓LD,LA,a0A,seval,LEv,LNm]|(refine And.intro ?_ ?_;omega)|simp only [D.int,D.bool]))
 all_goals
  clear hi hil
  refine HS.loopG [5,6,7,10] (fun i:Nat=>⟨frm 92 [(5,.f (fEv A)),(6,.f (fEv M)),(7,.f (fNm X)),(10,D.int i)],[],[]⟩) (fun i=>i≤X.length) (fun i=>X.length-i) 0 (by kernel_rfl) (Nat.zero_le _) ?_
  rintro i hi
  by_cases hil:i<X.length
  ·have e1:=at6n (g:=M) (k:=i) (by omega)
   have e2:=f1G hil
   have hx:=hX i hil
   repeat' (with_reducible first|refine Wx.h ?_|refine We.h fun K hK=>?_|refine Wd.h fun K M hK hM=>?_|(refine hK _ _ _ _ ?_;clear hK K;try clear hM M)|(refine hM ?_;clear hM M;try clear hK K)|refine Wb.h fun K hK=>?_|(refine hK _ ?_;clear hK K)|(refine wT ?_ ?_;assumption)|(refine wF ?_ ?_;assumption)|(refine Wy.h ?_ ?_;kernel_rfl)|refine Wq.h ?_ ?_<;>intro h<;>try (exfalso;omega)|refine Wu.h ?_ ?_<;>intro h<;>try simp only [h]|((fail_if_success refine Wz.h ?_);first|simp (disch:=omega) only [↓LD,LA,a0A,seval,LEv,LNm,a0K,List.length_map,e1,e2]|(refine And.intro ?_ ?_;omega)|simp only [D.int,D.bool]))
   all_goals exact Next.mk (i+1) (by kernel_rfl) (by omega) (by omega)
  ·repeat' (with_reducible first|refine Wx.h ?_|refine Wb.h fun K hK=>?_|(refine hK _ ?_;clear hK K)|(refine wT ?_ ?_;assumption)|(refine wF ?_ ?_;assumption)|(refine Wy.h ?_ ?_;kernel_rfl)|refine Wq.h ?_ ?_<;>intro h<;>try (exfalso;omega)|refine Wu.h ?_ ?_<;>intro h<;>try simp only [h]|((fail_if_success refine Wz.h ?_);first|simp (disch:=omega) only [↓LD,LA,a0A,seval,LEv,LNm]|(refine And.intro ?_ ?_;omega)|simp only [D.int,D.bool]))
   all_goals exact end1 rfl rfl (by kernel_rfl) .f ⟨rfl,rfl⟩
end Go.Proofs.YtahoaijkchgdaaaGreatDoor.Mir
namespace Go.Proofs.YtahoaijkchgdaaaGreatDoor
open Go Go.RowKit
theorem signalsOrder_walk (W:World)(hg:∀ p∈Mir.glTab,Mir.RF W (fun _=>False) p.1 p.2)(x:LnIn)(h:lnOk W x) :
  Calls Tryz.prog 10 #[.agg (lnV x).toArray] W fun e w'=>e = .returned (.bool true)∧Below W.heap.size W w' :=
 Mir.Con.calls (Mir.c_law_SignalsOrder (lnS x) (lnA x) (lnR x)) hg fun _ hA=>.one (r_ln hA h) .none
end Go.Proofs.YtahoaijkchgdaaaGreatDoor
namespace Go.Proofs.YtahoaijkchgdaaaGreatDoor.signalsOrder
open Go
set_option maxHeartbeats 0 in
theorem closed:joinedFacts Tryz.prog 10 Tryz.f10 (OpenSpec.ofChange Rows.signalsOrderSpec).bare Rows.signalsOrderRow=true:=by
 unfold joinedFacts
 repeat' (with_reducible refine Bool.and_eq_true_iff.2 ⟨?_,?_⟩)
 all_goals as_aux_lemma=>kernel_rfl
end Go.Proofs.YtahoaijkchgdaaaGreatDoor.signalsOrder
