/- Lemmas for the proof. No condition. -/
import Derived.Test.YthjgmldnegaaiaaGreatDoorSl15
import Derived.Test.YthjgmldnegaaiaaGreatDoorCards
import Derived.Deep.DeepHandedRow
set_option linter.unusedVariables false
set_option linter.unusedSimpArgs false
namespace Go.Proofs.YthjgmldnegaaiaaGreatDoor.Mir
open Go Go.RowKit
set_option maxHeartbeats 4000000
set_option maxRecDepth 100000 in
theorem f0h (e:Ev)(s:S12)(hl:s.sgs.length≤1000000):Con Tryz.prog 64 [evD e,.pt 0 0] [stF s] fun r H'=>r=D.bool (c0i s.sgs e.name)∧H'=[stF s]:=by
 have hc:=w0C s e.name hl
 obtain ⟨id,ver,time,closed,cancel,defs,nodes,tms,sgs⟩:=s
 refine Con.walk good k0m (by simp) ?_
 unfold f0a evD
 simp only [a0K]
 repeat' (with_reducible first|refine Wx.h ?_|refine Wb.h fun K hK=>?_|(refine hK _ ?_;clear hK K)|(refine wT ?_ ?_;assumption)|(refine wF ?_ ?_;assumption)|(refine Wy.h ?_ ?_;kernel_rfl)|refine Wq.h ?_ ?_<;>intro h<;>try (exfalso;omega)|refine Wu.h ?_ ?_<;>intro h<;>try simp only [h]|((fail_if_success refine Wz.h ?_);first|simp (disch:=omega) only [↓LD,LA,a0A,seval,stF]|(refine And.intro ?_ ?_;omega)|simp only [D.int,D.bool]))
 refine a0C hc rfl rfl rfl ?_
 repeat' (with_reducible first|refine Wx.h ?_|refine Wb.h fun K hK=>?_|(refine hK _ ?_;clear hK K)|(refine wT ?_ ?_;assumption)|(refine wF ?_ ?_;assumption)|(refine Wy.h ?_ ?_;kernel_rfl)|refine Wq.h ?_ ?_<;>intro h<;>try (exfalso;omega)|refine Wu.h ?_ ?_<;>intro h<;>try simp only [h]|((fail_if_success refine Wz.h ?_);first|simp (disch:=omega) only [↓LD,LA,a0A,seval,stF]|(refine And.intro ?_ ?_;omega)|simp only [D.int,D.bool]))
 exact end1 rfl rfl (by kernel_rfl) .f ⟨rfl,rfl⟩
def idxE (p:Ev→Bool):Nat→List Ev→Int
 | _,[]=>-1
 | i,e :: l=>if p e=true then i else idxE p (i+1) l
set_option maxRecDepth 100000 in
theorem k0l (l:List Ev)(s:S12)(hl:l.length≤1000000)(hs:s.sgs.length≤1000000):Con Tryz.prog 100 [.sl 0 0 l.length,.fn 64 [.pt 1 0]] [rEv l,stF s] fun r H'=>r=D.int (idxE (fun e=>c0i s.sgs e.name) 0 l)∧H'=[rEv l,stF s]:=by
 refine Con.walk good e0I (by simp) ?_
 unfold c0q
 simp only [a0K]
 repeat' (with_reducible first|refine Wx.h ?_|refine Wb.h fun K hK=>?_|(refine hK _ ?_;clear hK K)|(refine wT ?_ ?_;assumption)|(refine wF ?_ ?_;assumption)|(refine Wy.h ?_ ?_;kernel_rfl)|refine Wq.h ?_ ?_<;>intro h<;>try (exfalso;omega)|refine Wu.h ?_ ?_<;>intro h<;>try simp only [h]|((fail_if_success refine Wz.h ?_);first|simp (disch:=omega) only [↓LD,LA,a0A,seval,rEv]|(refine And.intro ?_ ?_;omega)|simp only [D.int,D.bool]))
 refine HS.loopG [0,1,7,8] (fun i:Nat=>⟨frm 19 [(0,.sl 0 0 l.length),(1,.fn 64 [.pt 1 0]),(7,D.int l.length),(8,D.int i)],[rEv l,stF s],[]⟩) (fun i=>i≤l.length∧idxE (fun e=>c0i s.sgs e.name) 0 l=idxE (fun e=>c0i s.sgs e.name) i (l.drop i)) (fun i=>l.length-i) 0 (by kernel_rfl) ⟨Nat.zero_le _,rfl⟩ ?_
 rintro i ⟨hi,hF⟩
 by_cases hil:i<l.length
 ·rw [a0G hil,idxE] at hF
  generalize hg:gt l i=e at *
  repeat' (with_reducible first|refine Wx.h ?_|refine Wb.h fun K hK=>?_|(refine hK _ ?_;clear hK K)|(refine wT ?_ ?_;assumption)|(refine wF ?_ ?_;assumption)|(refine Wy.h ?_ ?_;kernel_rfl)|refine Wq.h ?_ ?_<;>intro h<;>try (exfalso;omega)|refine Wu.h ?_ ?_<;>intro h<;>try simp only [h]|((fail_if_success refine Wz.h ?_);first|simp (disch:=omega) only [↓LD,LA,a0A,seval,rEv,n0Q,a0J,hg,Ev.cs,List.map_cons,List.map_nil]|(refine And.intro ?_ ?_;omega)|simp only [D.int,D.bool]))
  refine a0F (f0h e s hs) [1] (by kernel_rfl) rfl rfl ?_
  rintro _ _ ⟨rfl,rfl⟩
  simp (disch:=omega) only [↓LD,LA,a0A,seval,ren,List.getElem?_nil]
  repeat' (with_reducible first|refine Wx.h ?_|refine Wb.h fun K hK=>?_|(refine hK _ ?_;clear hK K)|(refine wT ?_ ?_;assumption)|(refine wF ?_ ?_;assumption)|(refine Wy.h ?_ ?_;kernel_rfl)|refine Wq.h ?_ ?_<;>intro h<;>try (exfalso;omega)|refine Wu.h ?_ ?_<;>intro h<;>try simp only [h]|((fail_if_success refine Wz.h ?_);first|simp (disch:=omega) only [↓LD,LA,a0A,seval,rEv]|(refine And.intro ?_ ?_;omega)|simp only [D.int,D.bool]))
  ·rw [if_pos (by assumption)] at hF
   exact end1 rfl rfl (by kernel_rfl) .f ⟨by rw [hF],rfl⟩
  ·rw [if_neg (by simp [*])] at hF
   exact Next.mk (i+1) (by kernel_rfl) ⟨by omega,hF⟩ (by omega)
 ·repeat' (with_reducible first|refine Wx.h ?_|refine Wb.h fun K hK=>?_|(refine hK _ ?_;clear hK K)|(refine wT ?_ ?_;assumption)|(refine wF ?_ ?_;assumption)|(refine Wy.h ?_ ?_;kernel_rfl)|refine Wq.h ?_ ?_<;>intro h<;>try (exfalso;omega)|refine Wu.h ?_ ?_<;>intro h<;>try simp only [h]|((fail_if_success refine Wz.h ?_);first|simp (disch:=omega) only [↓LD,LA,a0A,seval,rEv]|(refine And.intro ?_ ?_;omega)|simp only [D.int,D.bool]))
  rw [List.drop_of_length_le (by omega)] at hF
  exact end1 rfl rfl (by kernel_rfl) .f ⟨by rw [hF];rfl,rfl⟩
theorem b1P {P:Program}{H2:List Row}{e:Ev}{R:List Ev}{U:TypeId}{k:Nat}(hk:k<R.length):c0O P (.data U (R.flatMap Ev.cs) :: H2) 9 0 (k*9) (eA e) (some (.data U (R.flatMap Ev.cs)))=some (.data U ((R.set k e).flatMap Ev.cs) :: H2):=by
 have h:=r0w (P:=P) (H:=.data U (R.flatMap Ev.cs) :: H2) (n:=9) (r:=0) (off:=k*9) (ys:=Ev.cs e) (U:=U) (xs:=R.flatMap Ev.cs) rfl (by omega)
 rw [if_pos (by rw [a0J];omega)] at h
 refine h.trans ?_
 show some ((Row.data U (R.flatMap Ev.cs) :: H2).set 0 (.data U (splice (R.flatMap Ev.cs) (k*9) (Ev.cs e))))=_
 rw [e0v Ev.cs_len hk];rfl
theorem r0G {p:Ev→Bool}:∀ {l:List Ev} {i:Nat},(idxE p i l = -1∧l.filter (fun e=>!p e)=l)∨∃ k:Nat,idxE p i l=(i+k:Nat)∧k<l.length∧(l.take (k+1)).filter (fun e=>!p e)=l.take k
 | [],i=>.inl ⟨rfl,rfl⟩
 | e :: l,i=>by
  rw [idxE]
  by_cases h:p e=true
  ·rw [if_pos h]
   exact .inr ⟨0,by simp,by simp,by simp [h]⟩
  ·rw [if_neg h]
   rcases r0G (p:=p) (l:=l) (i:=i+1) with ⟨h1,h2⟩|⟨k,h1,h2,h3⟩
   ·exact .inl ⟨h1,by rw [List.filter_cons,if_pos (by simp [h]),h2]⟩
   ·exact .inr ⟨k+1,by rw [h1];congr 1;omega,by simp;omega,by rw [List.take_succ_cons,List.filter_cons,if_pos (by simp [h]),h3,List.take_succ_cons]⟩
theorem a1R {R:List Ev}{c:Nat}{e:Ev}(hc:c<R.length):(R.set c e).take (c+1)=R.take c++[e]:=by
 have h1:(R.take c).length=c:=by rw [List.length_take];omega
 rw [List.set_eq_take_append_cons_drop,if_pos hc,List.take_append,h1,List.take_of_length_le (by omega),show c+1-c=1 by omega]
 rfl
theorem b1c {H2:List Row}{xs:List F}{off m:Nat}(hm:m≠0)(hl:off+m*9≤xs.length):∃ zs,g0m Tryz.prog (.data 73 xs :: H2) 25 (.sl 0 off m)=some (.data 73 (xs.take off++zs) :: H2):=by
 have hu:Tryz.prog.underlying 25=some (.slice 73):=by kernel_rfl
 have hi:inf Tryz.prog 73=some (9,112,[.int .i64 0,.int .i64 0,.int .i64 0,.int .i64 0,.int .i64 0,.int .i64 0,.string ⟨#[]⟩,.slice none 0 0,.slice none 0 0]):=i0g
 have h:∃ vals,g0m Tryz.prog (.data 73 xs :: H2) 25 (.sl 0 off m)=some (.data 73 (splice xs off vals) :: H2):=by
  unfold g0m g0c
  rw [hu]
  dsimp only
  rw [if_neg hm,List.getElem?_cons_zero,hi]
  dsimp only
  rw [if_pos ⟨hl,by omega⟩]
  exact ⟨_,congrArg some (List.append_nil _)⟩
 obtain ⟨vals,h⟩:=h
 refine ⟨vals++xs.drop (off+vals.length),?_⟩
 rw [h,splice,List.append_assoc]
theorem e1k {l:List Ev}{k:Nat}:(l.flatMap Ev.cs).take (k*9)=(l.take k).flatMap Ev.cs:=by
 induction l generalizing k with
 | nil=>simp
 | cons e l ih =>
  cases k with
  | zero=>simp
  | succ k=>rw [List.take_succ_cons,List.flatMap_cons,List.flatMap_cons,List.take_append,List.take_of_length_le (by rw [Ev.cs_len];omega),Ev.cs_len,show (k+1)*9-9=k*9 by omega,ih]
def hadB (s:S12)(e:Ev):Bool:=c0i s.sgs e.name
set_option maxRecDepth 100000 in
theorem j0w (l:List Ev)(s:S12)(h0:l.length≠0)(hl:l.length≤1000000)(hs:s.sgs.length≤1000000):Con Tryz.prog 63 [.sl 0 0 l.length,.fn 64 [.pt 1 0]] [rEv l,stF s] fun r H'=>∃ xs,r=(if (l.filter fun e=>!hadB s e).length=0 then .f (.s [] 0) else .sl 0 0 (l.filter fun e=>!hadB s e).length)∧H'=[.data 73 ((l.filter fun e=>!hadB s e).flatMap Ev.cs++xs),stF s]:=by
 have hi0:=r0G (p:=hadB s) (l:=l) (i:=0)
 have hc:=k0l l s hl hs
 change Con _ _ _ _ fun r H'=>r=D.int (idxE (hadB s) 0 l)∧H'=[rEv l,stF s] at hc
 generalize idxE (hadB s) 0 l=i0 at *
 refine Con.walk good d0g (by simp) ?_
 unfold c0a
 simp only [a0K]
 rcases hi0 with ⟨rfl,hf⟩|⟨k,hk,hkl,hkf⟩
 ·rw [hf]
  repeat' (with_reducible first|refine Wx.h ?_|refine Wb.h fun K hK=>?_|(refine hK _ ?_;clear hK K)|(refine wT ?_ ?_;assumption)|(refine wF ?_ ?_;assumption)|(refine Wy.h ?_ ?_;kernel_rfl)|refine Wq.h ?_ ?_<;>intro h<;>try (exfalso;omega)|refine Wu.h ?_ ?_<;>intro h<;>try simp only [h]|((fail_if_success refine Wz.h ?_);first|simp (disch:=omega) only [↓LD,LA,a0A,seval]|(refine And.intro ?_ ?_;omega)|simp only [D.int,D.bool]))
  refine a0F hc [0,1] (by kernel_rfl) rfl rfl ?_
  rintro _ _ ⟨rfl,rfl⟩
  simp (disch:=omega) only [↓LD,LA,a0A,seval,ren,List.getElem?_nil,rEv,stF]
  repeat' (with_reducible first|refine Wx.h ?_|refine Wb.h fun K hK=>?_|(refine hK _ ?_;clear hK K)|(refine wT ?_ ?_;assumption)|(refine wF ?_ ?_;assumption)|(refine Wy.h ?_ ?_;kernel_rfl)|refine Wq.h ?_ ?_<;>intro h<;>try (exfalso;omega)|refine Wu.h ?_ ?_<;>intro h<;>try simp only [h]|((fail_if_success refine Wz.h ?_);first|simp (disch:=omega) only [↓LD,LA,a0A,seval]|(refine And.intro ?_ ?_;omega)|simp only [D.int,D.bool]))
  exact endA rfl rfl ⟨[],by rw [if_neg h0];rfl,by rw [List.append_nil];rfl⟩
 ·rw [Nat.zero_add] at hk
  subst hk
  repeat' (with_reducible first|refine Wx.h ?_|refine Wb.h fun K hK=>?_|(refine hK _ ?_;clear hK K)|(refine wT ?_ ?_;assumption)|(refine wF ?_ ?_;assumption)|(refine Wy.h ?_ ?_;kernel_rfl)|refine Wq.h ?_ ?_<;>intro h<;>try (exfalso;omega)|refine Wu.h ?_ ?_<;>intro h<;>try simp only [h]|((fail_if_success refine Wz.h ?_);first|simp (disch:=omega) only [↓LD,LA,a0A,seval]|(refine And.intro ?_ ?_;omega)|simp only [D.int,D.bool]))
  refine a0F hc [0,1] (by kernel_rfl) rfl rfl ?_
  rintro _ _ ⟨rfl,rfl⟩
  simp (disch:=omega) only [↓LD,LA,a0A,seval,ren,List.getElem?_nil,rEv,stF]
  repeat' (with_reducible first|refine Wx.h ?_|refine Wb.h fun K hK=>?_|(refine hK _ ?_;clear hK K)|(refine wT ?_ ?_;assumption)|(refine wF ?_ ?_;assumption)|(refine Wy.h ?_ ?_;kernel_rfl)|refine Wq.h ?_ ?_<;>intro h<;>try (exfalso;omega)|refine Wu.h ?_ ?_<;>intro h<;>try simp only [h]|((fail_if_success refine Wz.h ?_);first|simp (disch:=omega) only [↓LD,LA,a0A,seval,rEv]|(refine And.intro ?_ ?_;omega)|simp only [D.int,D.bool]))
  refine HS.loopG [0,1,5,6] (fun x:Nat × Nat × List Ev=>⟨frm 42 [(0,.sl 0 0 l.length),(1,.fn 64 [.pt 1 0]),(5,D.int x.1),(6,D.int x.2.1)],[rEv x.2.2,stF s],[]⟩) (fun x=>x.1<x.2.1∧x.2.1≤l.length∧x.2.2.length=l.length∧x.2.2.take x.1=(l.take x.2.1).filter (fun e=>!hadB s e)∧x.2.2.drop x.2.1=l.drop x.2.1) (fun x=>l.length-x.2.1) (k,k+1,l) (by kernel_rfl) ⟨by dsimp only;omega,by dsimp only;omega,rfl,hkf.symm,rfl⟩ ?_
  clear hkf hkl
  rintro ⟨c,j,R⟩ ⟨hcj,hj,hR,hT,hD⟩
  dsimp only at hcj hj hR hT hD
  by_cases hjl:j<l.length
  ·have hg:gt R j=gt l j:=by
    have h1:(R.drop j)[0]?=(l.drop j)[0]?:=by rw [hD]
    rw [List.getElem?_drop,List.getElem?_drop,Nat.add_zero,List.getElem?_eq_getElem (by omega),List.getElem?_eq_getElem (by omega)] at h1
    rw [b0R (by omega),b0R (by omega)]
    exact Option.some.inj h1
   generalize he:gt l j=e at *
   have hst:=fun (P:Program) (H2:List Row) (U:TypeId)=>b1P (P:=P) (H2:=H2) (e:=e) (R:=R) (U:=U) (k:=c) (by omega)
   repeat' (with_reducible first|refine Wx.h ?_|refine Wb.h fun K hK=>?_|(refine hK _ ?_;clear hK K)|(refine wT ?_ ?_;assumption)|(refine wF ?_ ?_;assumption)|(refine Wy.h ?_ ?_;kernel_rfl)|refine Wq.h ?_ ?_<;>intro h<;>try (exfalso;omega)|refine Wu.h ?_ ?_<;>intro h<;>try simp only [h]|((fail_if_success refine Wz.h ?_);first|simp (disch:=omega) only [↓LD,LA,a0A,seval,rEv,n0Q,a0J,hR,hg,Ev.cs,List.map_cons,List.map_nil]|(refine And.intro ?_ ?_;omega)|simp only [D.int,D.bool]))
   refine a0F (f0h e s hs) [1] (by kernel_rfl) rfl rfl ?_
   rintro _ _ ⟨rfl,rfl⟩
   have htk:l.take (j+1)=l.take j++[e]:=by rw [List.take_succ_eq_append_getElem hjl,←b0R hjl,he]
   have hD2:R.drop (j+1)=l.drop (j+1):=by rw [←List.drop_drop,←List.drop_drop,hD]
   simp (disch:=omega) only [↓LD,LA,a0A,seval,ren,List.getElem?_nil,rEv,stF]
   repeat' (with_reducible first|refine Wx.h ?_|refine Wb.h fun K hK=>?_|(refine hK _ ?_;clear hK K)|(refine wT ?_ ?_;assumption)|(refine wF ?_ ?_;assumption)|(refine Wy.h ?_ ?_;kernel_rfl)|refine Wq.h ?_ ?_<;>intro h<;>try (exfalso;omega)|refine Wu.h ?_ ?_<;>intro h<;>try simp only [h]|((fail_if_success refine Wz.h ?_);first|simp (disch:=omega) only [↓LD,LA,a0A,seval,rEv,hst,a0J,hR]|(refine And.intro ?_ ?_;omega)|simp only [D.int,D.bool]))
   ·have hb:(!hadB s e)=true:=by assumption
    exact Next.mk (c+1,j+1,R.set c e) (by kernel_rfl) ⟨by dsimp only;omega,by dsimp only;omega,by dsimp only;rw [List.length_set];exact hR,by dsimp only;rw [a1R (by omega),hT,htk,List.filter_append,List.filter_cons,if_pos hb,List.filter_nil],by dsimp only;rw [List.drop_set_of_lt (by omega)];exact hD2⟩ (by dsimp only;omega)
   ·have hb:(!hadB s e)=false:=by assumption
    exact Next.mk (c,j+1,R) (by kernel_rfl) ⟨by dsimp only;omega,by dsimp only;omega,hR,by dsimp only;rw [hT,htk,List.filter_append,List.filter_cons,if_neg (by rw [hb];simp),List.filter_nil,List.append_nil],hD2⟩ (by dsimp only;omega)
  ·obtain rfl:j=l.length:=by omega
   rw [List.take_length] at hT
   have hcn:¬ c=l.length:=by omega
   have hpos:0<l.length*9:=by omega
   obtain ⟨zs,hz⟩:=b1c (H2:=[stF s]) (xs:=R.flatMap Ev.cs) (off:=c*9) (m:=l.length-c) (by omega) (by rw [a0J];omega)
   rw [e1k,hT] at hz
   have hcl:c=(l.filter fun e=>!hadB s e).length:=by rw [←hT,List.length_take];omega
   repeat' (with_reducible first|refine Wx.h ?_|refine Wb.h fun K hK=>?_|(refine hK _ ?_;clear hK K)|(refine wT ?_ ?_;assumption)|(refine wF ?_ ?_;assumption)|(refine Wy.h ?_ ?_;kernel_rfl)|refine Wq.h ?_ ?_<;>intro h<;>try (exfalso;omega)|refine Wu.h ?_ ?_<;>intro h<;>try simp only [h]|((fail_if_success refine Wz.h ?_);first|simp (disch:=omega) only [↓LD,LA,a0A,seval,rEv,hcn,a0J,hR,hpos,hz,↓reduceIte]|(refine And.intro ?_ ?_;omega)|simp only [D.int,D.bool]))
   by_cases hc0:0=c
   ·simp only [if_pos hc0]
    repeat' (with_reducible first|refine Wx.h ?_|refine Wb.h fun K hK=>?_|(refine hK _ ?_;clear hK K)|(refine wT ?_ ?_;assumption)|(refine wF ?_ ?_;assumption)|(refine Wy.h ?_ ?_;kernel_rfl)|refine Wq.h ?_ ?_<;>intro h<;>try (exfalso;omega)|refine Wu.h ?_ ?_<;>intro h<;>try simp only [h]|((fail_if_success refine Wz.h ?_);first|simp (disch:=omega) only [↓LD,LA,a0A,seval,rEv]|(refine And.intro ?_ ?_;omega)|simp only [D.int,D.bool]))
    exact endA rfl rfl ⟨zs,by rw [←hcl,if_pos hc0.symm];rfl,rfl⟩
   ·have hp2:0<(List.flatMap Ev.cs (l.filter fun e=>!hadB s e)++zs).length:=by rw [List.length_append,a0J,←hcl];omega
    simp only [if_neg hc0,if_pos hp2]
    repeat' (with_reducible first|refine Wx.h ?_|refine Wb.h fun K hK=>?_|(refine hK _ ?_;clear hK K)|(refine wT ?_ ?_;assumption)|(refine wF ?_ ?_;assumption)|(refine Wy.h ?_ ?_;kernel_rfl)|refine Wq.h ?_ ?_<;>intro h<;>try (exfalso;omega)|refine Wu.h ?_ ?_<;>intro h<;>try simp only [h]|((fail_if_success refine Wz.h ?_);first|simp (disch:=omega) only [↓LD,LA,a0A,seval,rEv]|(refine And.intro ?_ ?_;omega)|simp only [D.int,D.bool]))
    exact endA rfl rfl ⟨zs,by rw [←hcl,if_neg (fun e=>hc0 e.symm)];rfl,rfl⟩
structure SigOk (t:Br)(ms:List Ev):Prop where
 mem:∀ e∈ms,e.ty=7∧∃ b∈t,e∈b
 nd:(ms.map (·.name)).Nodup
theorem findE_none {ms:List Ev}{k:Bs}:(c0j ms k).isNone=true↔k ∉ ms.map (·.name):=by
 unfold c0j
 rw [Option.isNone_iff_eq_none,List.find?_eq_none]
 constructor
 ·intro h hm
  obtain ⟨e,he,rfl⟩:=List.mem_map.1 hm
  have:=h e he
  simp at this
 ·intro h e he hk
  have hk:k=e.name:=by simpa using hk
  exact h (List.mem_map.2 ⟨e,he,hk.symm⟩)
theorem SigOk.add {t:Br}{ms:List Ev}{e:Ev}{b:List Ev}(h:SigOk t ms)(hb:b∈t)(he:e∈b):SigOk t (addS ms e):=by
 unfold addS
 split
 ·rename_i hc
  refine ⟨fun x hx=>?_,?_⟩
  ·rcases List.mem_append.1 hx with hx|hx
   ·exact h.mem x hx
   ·obtain rfl:=List.mem_singleton.1 hx;exact ⟨hc.2,b,hb,he⟩
  ·rw [List.map_append,List.nodup_append]
   refine ⟨h.nd,by simp,fun a ha c hcc=>?_⟩
   rintro rfl
   obtain rfl:a=e.name:=by simpa using hcc
   exact findE_none.1 hc.1 ha
 ·exact h
theorem SigOk.addAll {t:Br}:∀ {l:List Ev} {ms:List Ev} {b:List Ev},SigOk t ms→b∈t→(∀ e∈l,e∈b)→SigOk t (l.foldl addS ms)
 | [],_,_,h,_,_=>h
 | e :: l,ms,b,h,hb,hl=>SigOk.addAll (l:=l) (h.add hb (hl e (by simp))) hb fun x hx=>hl x (by simp [hx])
theorem SigOk.all {t:Br}:∀ {l:Br} {ms:List Ev},SigOk t ms→(∀ b∈l,b∈t)→SigOk t (l.foldl (fun ms b=>b.foldl addS ms) ms)
 | [],_,h,_=>h
 | b :: l,ms,h,hl=>SigOk.all (l:=l) (h.addAll (hl b (by simp)) fun x hx=>hx) fun x hx=>hl x (by simp [hx])
theorem n0w (t:Br):SigOk t (sigM t):=SigOk.all ⟨fun e h=>by simp at h,by simp⟩ fun b hb=>hb
theorem w0n (ms:List Ev):(allL ms).map (·.name)=b0W ms:=by
 have key:∀ ks:List Bs,(∀ k∈ks,k∈b0W ms)→(ks.map fun k=>(c0j ms k).getD default).map (·.name)=ks:=by
  intro ks
  induction ks with
  | nil=>intro _;rfl
  | cons k ks ih =>
   intro h
   obtain ⟨e,h1,h2,h3⟩:=a1s (h k (by simp))
   rw [List.map_cons,List.map_cons,h1,ih fun x hx=>h x (by simp [hx])]
   show e.name :: ks=k :: ks
   rw [h3]
 exact key _ fun k h=>h
set_option maxRecDepth 100000 in
theorem a1b (l:List Ev)(hl:l.length≤1000000)(hf:∀ e∈l,FitV e):Con Tryz.prog 24 [.f (fEv l)] [] fun r H'=>r = .tp [stD (a0N s0 l).2,D.int (a0N s0 l).1]∧H'=[]:=by
 refine Con.walk good w0m (by simp) ?_
 unfold o0e
 simp only [a0K]
 repeat' (with_reducible first|refine Wx.h ?_|refine Wb.h fun K hK=>?_|(refine hK _ ?_;clear hK K)|(refine wT ?_ ?_;assumption)|(refine wF ?_ ?_;assumption)|(refine Wy.h ?_ ?_;kernel_rfl)|refine Wq.h ?_ ?_<;>intro h<;>try (exfalso;omega)|refine Wu.h ?_ ?_<;>intro h<;>try simp only [h]|((fail_if_success refine Wz.h ?_);first|simp (disch:=omega) only [↓LD,LA,a0A,seval,LEv]|(refine And.intro ?_ ?_;omega)|simp only [D.int,D.bool]))
 refine HS.view (View.bcell 1 5 (.f (.s [] 0)) rfl rfl .ns) ?_
 refine HS.view (View.void 158) ?_
 refine HS.view (View.void 180) ?_
 refine HS.view (View.void 106) ?_
 refine HS.view (View.bcell 1 6 (.sl 2 0 0) rfl rfl (.no (by show 2<5;omega))) ?_
 refine HS.view (View.bcell 1 7 (.sl 3 0 0) rfl rfl (.no (by show 3<5;omega))) ?_
 refine HS.view (View.bcell 1 8 (.sl 4 0 0) rfl rfl (.no (by show 4<5;omega))) ?_
 refine HS.loopG [2,4,9,10,11] (fun x:Nat × S12=>⟨frm 23 [(2,.pt 0 0),(4,.pt 1 0),(9,.f (fEv l)),(10,D.int l.length),(11,D.int x.1)],[.box 65 [jI,jI,jI,jI,jF,jN,jN,jN,jN],.box 65 (stL 2 3 4 x.2),rN x.2.nodes,rT x.2.tms,rS x.2.sgs],[]⟩)
  (fun x=>x.1≤l.length∧Ok12 x.2∧a0N s0 l=a0N x.2 (l.drop x.1)) (fun x=>l.length-x.1) (0,s0) (by kernel_rfl) ⟨Nat.zero_le _,v0z,rfl⟩ ?_
 rintro ⟨i,s⟩ ⟨hi,ho,hF⟩
 dsimp only at hi ho hF
 by_cases hil:i<l.length
 ·rw [a0G hil,a0N] at hF
  have hv:=hf _ (a0L hil)
  have he:=y0E (e:=gt l i) ho
  unfold y0y at he
  obtain ⟨hA,_,_⟩:=ho.fitA
  have hid:=ho.id
  have ho2:=c0U (e:=gt l i) ho hv.2.2.2
  repeat' (with_reducible first|refine Wx.h ?_|refine Wb.h fun K hK=>?_|(refine hK _ ?_;clear hK K)|(refine wT ?_ ?_;assumption)|(refine wF ?_ ?_;assumption)|(refine Wy.h ?_ ?_;kernel_rfl)|refine Wq.h ?_ ?_<;>intro h<;>try (exfalso;omega)|refine Wu.h ?_ ?_<;>intro h<;>try simp only [h]|((fail_if_success refine Wz.h ?_);first|simp (disch:=omega) only [↓LD,LA,a0A,seval,LEv,b0k,a0J,Ev.cs,stL,rN,rT,rS,-a0A,List.map_cons,List.map_nil]|(refine And.intro ?_ ?_;omega)|simp only [D.int,D.bool]))
  refine a0F (x0r s (gt l i) hA hv.1 hv.2.2 ⟨hid.1,by omega⟩) [1,2,3,4] (by kernel_rfl) rfl rfl ?_
  rintro _ _ ⟨rfl,m,rfl⟩
  generalize c0F s (gt l i)=p at he ⊢
  obtain ⟨v,s'⟩:=p
  dsimp only at he ⊢
  rcases m with _|_|_|m
  ·simp (disch:=omega) only [↓LD,LA,a0A,seval,ren,List.getElem?_nil,stM,stH,stL,rN,rT,rS]
   repeat' (with_reducible first|refine Wx.h ?_|refine Wb.h fun K hK=>?_|(refine hK _ ?_;clear hK K)|(refine wT ?_ ?_;assumption)|(refine wF ?_ ?_;assumption)|(refine Wy.h ?_ ?_;kernel_rfl)|refine Wq.h ?_ ?_<;>intro h<;>try (exfalso;omega)|refine Wu.h ?_ ?_<;>intro h<;>try simp only [h]|((fail_if_success refine Wz.h ?_);first|simp (disch:=omega) only [↓LD,LA,a0A,seval]|(refine And.intro ?_ ?_;omega)|simp only [D.int,D.bool]))
   ·have hv0:v=0:=by assumption
    rw [if_pos hv0] at he
    rw [←he] at hF ho2
    rw [if_pos rfl] at hF
    exact Next.mk (i+1,s') (by kernel_rfl) ⟨by dsimp only;omega,ho2 rfl,hF⟩ (by dsimp only;omega)
   ·have hv0:¬ v=0:=by assumption
    rw [if_neg hv0] at he
    rw [←he,if_neg hv0] at hF
    rw [hF]
    exact RetS.still (ds:=[.ag [jI,jI,jI,jI,jF,jN,jN,jN,jN],D.int v]) (by kernel_rfl) (by kernel_rfl) (.tps (.cons (.ags (.cons .f (.cons .f (.cons .f (.cons .f (.cons .f (.cons .nil (.cons .nil (.cons .nil (.cons .nil .nil)))))))))) (.cons .f .nil))) ⟨rfl,rfl⟩
  ·simp (disch:=omega) only [↓LD,LA,a0A,seval,ren,List.getElem?_nil,stM,stH,stL,rN,rT,rS]
   repeat' (with_reducible first|refine Wx.h ?_|refine Wb.h fun K hK=>?_|(refine hK _ ?_;clear hK K)|(refine wT ?_ ?_;assumption)|(refine wF ?_ ?_;assumption)|(refine Wy.h ?_ ?_;kernel_rfl)|refine Wq.h ?_ ?_<;>intro h<;>try (exfalso;omega)|refine Wu.h ?_ ?_<;>intro h<;>try simp only [h]|((fail_if_success refine Wz.h ?_);first|simp (disch:=omega) only [↓LD,LA,a0A,seval]|(refine And.intro ?_ ?_;omega)|simp only [D.int,D.bool]))
   ·have hv0:v=0:=by assumption
    rw [if_pos hv0] at he
    rw [←he] at hF ho2
    rw [if_pos rfl] at hF
    exact Next.mk (i+1,s') (by kernel_rfl) ⟨by dsimp only;omega,ho2 rfl,hF⟩ (by dsimp only;omega)
   ·have hv0:¬ v=0:=by assumption
    rw [if_neg hv0] at he
    rw [←he,if_neg hv0] at hF
    rw [hF]
    exact RetS.still (ds:=[.ag [jI,jI,jI,jI,jF,jN,jN,jN,jN],D.int v]) (by kernel_rfl) (by kernel_rfl) (.tps (.cons (.ags (.cons .f (.cons .f (.cons .f (.cons .f (.cons .f (.cons .nil (.cons .nil (.cons .nil (.cons .nil .nil)))))))))) (.cons .f .nil))) ⟨rfl,rfl⟩
  ·simp (disch:=omega) only [↓LD,LA,a0A,seval,ren,List.getElem?_nil,stM,stH,stL,rN,rT,rS]
   repeat' (with_reducible first|refine Wx.h ?_|refine Wb.h fun K hK=>?_|(refine hK _ ?_;clear hK K)|(refine wT ?_ ?_;assumption)|(refine wF ?_ ?_;assumption)|(refine Wy.h ?_ ?_;kernel_rfl)|refine Wq.h ?_ ?_<;>intro h<;>try (exfalso;omega)|refine Wu.h ?_ ?_<;>intro h<;>try simp only [h]|((fail_if_success refine Wz.h ?_);first|simp (disch:=omega) only [↓LD,LA,a0A,seval]|(refine And.intro ?_ ?_;omega)|simp only [D.int,D.bool]))
   ·have hv0:v=0:=by assumption
    rw [if_pos hv0] at he
    rw [←he] at hF ho2
    rw [if_pos rfl] at hF
    exact Next.mk (i+1,s') (by kernel_rfl) ⟨by dsimp only;omega,ho2 rfl,hF⟩ (by dsimp only;omega)
   ·have hv0:¬ v=0:=by assumption
    rw [if_neg hv0] at he
    rw [←he,if_neg hv0] at hF
    rw [hF]
    exact RetS.still (ds:=[.ag [jI,jI,jI,jI,jF,jN,jN,jN,jN],D.int v]) (by kernel_rfl) (by kernel_rfl) (.tps (.cons (.ags (.cons .f (.cons .f (.cons .f (.cons .f (.cons .f (.cons .nil (.cons .nil (.cons .nil (.cons .nil .nil)))))))))) (.cons .f .nil))) ⟨rfl,rfl⟩
  ·simp (disch:=omega) only [↓LD,LA,a0A,seval,ren,List.getElem?_nil,stM,stH,stL,rN,rT,rS]
   repeat' (with_reducible first|refine Wx.h ?_|refine Wb.h fun K hK=>?_|(refine hK _ ?_;clear hK K)|(refine wT ?_ ?_;assumption)|(refine wF ?_ ?_;assumption)|(refine Wy.h ?_ ?_;kernel_rfl)|refine Wq.h ?_ ?_<;>intro h<;>try (exfalso;omega)|refine Wu.h ?_ ?_<;>intro h<;>try simp only [h]|((fail_if_success refine Wz.h ?_);first|simp (disch:=omega) only [↓LD,LA,a0A,seval]|(refine And.intro ?_ ?_;omega)|simp only [D.int,D.bool]))
   ·have hv0:v=0:=by assumption
    rw [if_pos hv0] at he
    rw [←he] at hF ho2
    rw [if_pos rfl] at hF
    exact Next.mk (i+1,s') (by kernel_rfl) ⟨by dsimp only;omega,ho2 rfl,hF⟩ (by dsimp only;omega)
   ·have hv0:¬ v=0:=by assumption
    rw [if_neg hv0] at he
    rw [←he,if_neg hv0] at hF
    rw [hF]
    exact RetS.still (ds:=[.ag [jI,jI,jI,jI,jF,jN,jN,jN,jN],D.int v]) (by kernel_rfl) (by kernel_rfl) (.tps (.cons (.ags (.cons .f (.cons .f (.cons .f (.cons .f (.cons .f (.cons .nil (.cons .nil (.cons .nil (.cons .nil .nil)))))))))) (.cons .f .nil))) ⟨rfl,rfl⟩
 ·repeat' (with_reducible first|refine Wx.h ?_|refine Wb.h fun K hK=>?_|(refine hK _ ?_;clear hK K)|(refine wT ?_ ?_;assumption)|(refine wF ?_ ?_;assumption)|(refine Wy.h ?_ ?_;kernel_rfl)|refine Wq.h ?_ ?_<;>intro h<;>try (exfalso;omega)|refine Wu.h ?_ ?_<;>intro h<;>try simp only [h]|((fail_if_success refine Wz.h ?_);first|simp (disch:=omega) only [↓LD,LA,a0A,seval,LEv,stL,rN,rT,rS]|(refine And.intro ?_ ?_;omega)|simp only [D.int,D.bool]))
  rw [List.drop_of_length_le (by omega),a0N] at hF
  rw [hF]
  exact RetS.still (ds:=[.ag (stL 2 3 4 s),D.int 0]) (by kernel_rfl) (by kernel_rfl) (.tps (.cons (e1P rfl rfl rfl) (.cons .f .nil))) ⟨rfl,rfl⟩
theorem i0A (s:S12):Con Tryz.prog 100 [jN,.fn 64 [.pt 0 0]] [stF s] fun r H'=>r=D.int (-1)∧H'=[stF s]:=by
 refine Con.walk good e0I (by simp) ?_
 unfold c0q
 simp only [a0K]
 repeat' (with_reducible first|refine Wx.h ?_|refine Wb.h fun K hK=>?_|(refine hK _ ?_;clear hK K)|(refine wT ?_ ?_;assumption)|(refine wF ?_ ?_;assumption)|(refine Wy.h ?_ ?_;kernel_rfl)|refine Wq.h ?_ ?_<;>intro h<;>try (exfalso;omega)|refine Wu.h ?_ ?_<;>intro h<;>try simp only [h]|((fail_if_success refine Wz.h ?_);first|simp (disch:=omega) only [↓LD,LA,a0A,seval]|(refine And.intro ?_ ?_;omega)|simp only [D.int,D.bool]))
 refine HS.loopG [7,8] (fun _:Unit=>⟨frm 19 [(7,jI),(8,jI)],[stF s],[]⟩) (fun _=>True) (fun _=>0) () (by kernel_rfl) trivial ?_
 rintro - -
 repeat' (with_reducible first|refine Wx.h ?_|refine Wb.h fun K hK=>?_|(refine hK _ ?_;clear hK K)|(refine wT ?_ ?_;assumption)|(refine wF ?_ ?_;assumption)|(refine Wy.h ?_ ?_;kernel_rfl)|refine Wq.h ?_ ?_<;>intro h<;>try (exfalso;omega)|refine Wu.h ?_ ?_<;>intro h<;>try simp only [h]|((fail_if_success refine Wz.h ?_);first|simp (disch:=omega) only [↓LD,LA,a0A,seval]|(refine And.intro ?_ ?_;omega)|simp only [D.int,D.bool]))
 exact end1 rfl rfl (by kernel_rfl) .f ⟨rfl,rfl⟩
theorem h0d (s:S12):Con Tryz.prog 63 [jN,.fn 64 [.pt 0 0]] [stF s] fun r H'=>r=jN∧H'=[stF s]:=by
 refine Con.walk good d0g (by simp) ?_
 unfold c0a
 simp only [a0K]
 repeat' (with_reducible first|refine Wx.h ?_|refine Wb.h fun K hK=>?_|(refine hK _ ?_;clear hK K)|(refine wT ?_ ?_;assumption)|(refine wF ?_ ?_;assumption)|(refine Wy.h ?_ ?_;kernel_rfl)|refine Wq.h ?_ ?_<;>intro h<;>try (exfalso;omega)|refine Wu.h ?_ ?_<;>intro h<;>try simp only [h]|((fail_if_success refine Wz.h ?_);first|simp (disch:=omega) only [↓LD,LA,a0A,seval]|(refine And.intro ?_ ?_;omega)|simp only [D.int,D.bool]))
 refine a0F (i0A s) [0] (by kernel_rfl) rfl rfl ?_
 rintro _ _ ⟨rfl,rfl⟩
 simp (disch:=omega) only [↓LD,LA,a0A,seval,ren,List.getElem?_nil,stF]
 repeat' (with_reducible first|refine Wx.h ?_|refine Wb.h fun K hK=>?_|(refine hK _ ?_;clear hK K)|(refine wT ?_ ?_;assumption)|(refine wF ?_ ?_;assumption)|(refine Wy.h ?_ ?_;kernel_rfl)|refine Wq.h ?_ ?_<;>intro h<;>try (exfalso;omega)|refine Wu.h ?_ ?_<;>intro h<;>try simp only [h]|((fail_if_success refine Wz.h ?_);first|simp (disch:=omega) only [↓LD,LA,a0A,seval]|(refine And.intro ?_ ?_;omega)|simp only [D.int,D.bool]))
 exact end1 rfl rfl (by kernel_rfl) .f ⟨rfl,rfl⟩
instance {l:List Ev}{H:List Row}{K:D→List Row→Prop}[hl:Kn (FitL l)]:Wa (a0R Tryz.prog (.fn 24 []) [.f (fEv l)] H K)
  (K (.tp [sA (a0N s0 l).2,.f (.v (.int .i64 (a0N s0 l).1))]) H):=⟨fun h=>a0C (a1b l hl.h.1 hl.h.2) rfl rfl rfl h⟩
def misL (t:Br):List Ev:=(allL (sigM t)).filter fun e=>!hadB (a0N s0 (curL t)).2 e
set_option maxRecDepth 100000 in
theorem r0u (t:Br)(ht:TrK t)(hs:∀ e∈sigM t,FitV e∧e.name.length≤100000)(hsl:(sigM t).length≤1000000):Con Tryz.prog 27 [.ag [.f (fBr t)]] [] fun r H'=>∃ xs,r = .f (.s ((misL t).flatMap Ev.cs++xs) (misL t).length)∧H'=[]:=by
 haveI:Kn (TrK t):=⟨ht⟩
 haveI:Kn (FitL (curL t)):=⟨ht.cur.fitL⟩
 have hsg:=ht.cur.ok.wk.fit.fit.sgs
 have hA:=v0K t ht hs hsl
 refine Con.walk good n0Z (by simp) ?_
 unfold g0n misL
 simp only [a0K]
 have hal:(allL (sigM t)).length≤1000000:=by unfold allL;rw [List.length_map,(b0q _).length_eq,List.length_map];exact hsl
 repeat' (with_reducible first|refine Wx.h ?_|refine Wb.h fun K hK=>?_|(refine hK _ ?_;clear hK K)|(refine wT ?_ ?_;assumption)|(refine wF ?_ ?_;assumption)|(refine Wy.h ?_ ?_;kernel_rfl)|refine Wq.h ?_ ?_<;>intro h<;>try (exfalso;omega)|refine Wu.h ?_ ?_<;>intro h<;>try simp only [h]|((fail_if_success refine Wz.h ?_);first|simp (disch:=omega) only [↓LD,LA,a0A,seval,LBr]|(refine And.intro ?_ ?_;omega)|simp only [D.int,D.bool]))
 by_cases hz:(allL (sigM t)).length=0
 ·rw [alR,if_pos hz,alH,if_pos hz] at hA
  have hm:((allL (sigM t)).filter fun e=>!hadB (a0N s0 (curL t)).2 e).length=0:=by rw [List.eq_nil_of_length_eq_zero hz];rfl
  refine a0C hA rfl rfl rfl ?_
  repeat' (with_reducible first|refine Wx.h ?_|refine Wb.h fun K hK=>?_|(refine hK _ ?_;clear hK K)|(refine wT ?_ ?_;assumption)|(refine wF ?_ ?_;assumption)|(refine Wy.h ?_ ?_;kernel_rfl)|refine Wq.h ?_ ?_<;>intro h<;>try (exfalso;omega)|refine Wu.h ?_ ?_<;>intro h<;>try simp only [h]|((fail_if_success refine Wz.h ?_);first|simp (disch:=omega) only [↓LD,LA,a0A,seval,LBr]|(refine And.intro ?_ ?_;omega)|simp only [D.int,D.bool]))
  refine a0F (h0d (a0N s0 (curL t)).2) [1] (by kernel_rfl) rfl rfl ?_
  rintro _ _ ⟨rfl,rfl⟩
  simp (disch:=omega) only [↓LD,LA,a0A,seval,ren,List.getElem?_nil,stF]
  repeat' (with_reducible first|refine Wx.h ?_|refine Wb.h fun K hK=>?_|(refine hK _ ?_;clear hK K)|(refine wT ?_ ?_;assumption)|(refine wF ?_ ?_;assumption)|(refine Wy.h ?_ ?_;kernel_rfl)|refine Wq.h ?_ ?_<;>intro h<;>try (exfalso;omega)|refine Wu.h ?_ ?_<;>intro h<;>try simp only [h]|((fail_if_success refine Wz.h ?_);first|simp (disch:=omega) only [↓LD,LA,a0A,seval,LBr]|(refine And.intro ?_ ?_;omega)|simp only [D.int,D.bool]))
  exact end1 rfl rfl (by kernel_rfl) .nil ⟨[],by rw [List.eq_nil_of_length_eq_zero hm];rfl,rfl⟩
 ·rw [alR,if_neg hz,alH,if_neg hz] at hA
  refine a0F hA [] (by kernel_rfl) rfl rfl ?_
  rintro _ _ ⟨rfl,rfl⟩
  simp (disch:=omega) only [↓LD,LA,a0A,seval,ren,List.getElem?_nil,rEv]
  repeat' (with_reducible first|refine Wx.h ?_|refine Wb.h fun K hK=>?_|(refine hK _ ?_;clear hK K)|(refine wT ?_ ?_;assumption)|(refine wF ?_ ?_;assumption)|(refine Wy.h ?_ ?_;kernel_rfl)|refine Wq.h ?_ ?_<;>intro h<;>try (exfalso;omega)|refine Wu.h ?_ ?_<;>intro h<;>try simp only [h]|((fail_if_success refine Wz.h ?_);first|simp (disch:=omega) only [↓LD,LA,a0A,seval,LBr]|(refine And.intro ?_ ?_;omega)|simp only [D.int,D.bool]))
  refine a0F (j0w (allL (sigM t)) (a0N s0 (curL t)).2 hz hal hsg) [2,1] (by kernel_rfl) rfl rfl ?_
  rintro _ _ ⟨xs,rfl,rfl⟩
  by_cases hm:((allL (sigM t)).filter fun e=>!hadB (a0N s0 (curL t)).2 e).length=0
  ·rw [if_pos hm]
   simp (disch:=omega) only [↓LD,LA,a0A,seval,ren,List.getElem?_nil,stF]
   repeat' (with_reducible first|refine Wx.h ?_|refine Wb.h fun K hK=>?_|(refine hK _ ?_;clear hK K)|(refine wT ?_ ?_;assumption)|(refine wF ?_ ?_;assumption)|(refine Wy.h ?_ ?_;kernel_rfl)|refine Wq.h ?_ ?_<;>intro h<;>try (exfalso;omega)|refine Wu.h ?_ ?_<;>intro h<;>try simp only [h]|((fail_if_success refine Wz.h ?_);first|simp (disch:=omega) only [↓LD,LA,a0A,seval,LBr]|(refine And.intro ?_ ?_;omega)|simp only [D.int,D.bool]))
   exact end1 rfl rfl (by kernel_rfl) .f ⟨[],by rw [List.eq_nil_of_length_eq_zero hm];rfl,rfl⟩
  ·rw [if_neg hm]
   simp (disch:=omega) only [↓LD,LA,a0A,seval,ren,List.getElem?_nil,stF]
   repeat' (with_reducible first|refine Wx.h ?_|refine Wb.h fun K hK=>?_|(refine hK _ ?_;clear hK K)|(refine wT ?_ ?_;assumption)|(refine wF ?_ ?_;assumption)|(refine Wy.h ?_ ?_;kernel_rfl)|refine Wq.h ?_ ?_<;>intro h<;>try (exfalso;omega)|refine Wu.h ?_ ?_<;>intro h<;>try simp only [h]|((fail_if_success refine Wz.h ?_);first|simp (disch:=omega) only [↓LD,LA,a0A,seval,LBr]|(refine And.intro ?_ ?_;omega)|simp only [D.int,D.bool]))
   exact end1 rfl rfl (by kernel_rfl) (.sl (T:=73) (xs:=((allL (sigM t)).filter fun e=>!hadB (a0N s0 (curL t)).2 e).flatMap Ev.cs++xs) rfl (fun e=>absurd e hm)) ⟨xs,rfl,rfl⟩
theorem o0Z {t:Br}(ht:TrK t):∀ e∈sigM t,FitV e∧e.name.length≤100000:=fun e he=>by
 obtain ⟨h7,b,hb,heb⟩:=(n0w t).mem e he
 have ok:=(ht.ok b hb).1
 have hr:=(rightE_iff.1 (ok.right heb)).2.2.2.2.2.2.1
 rw [if_pos (by omega)] at hr
 exact ⟨ok.fit e heb,by have:=n0T hr;omega⟩
theorem m0l:∀ {l:List Ev} {ms:List Ev},(l.foldl addS ms).length≤ms.length+l.length
 | [],ms=>by simp
 | e :: l,ms=>by
  have h1:=m0l (l:=l) (ms:=addS ms e)
  have h2:=c1B (ms:=ms) (e:=e)
  rw [List.foldl_cons,List.length_cons];omega
theorem n0E:∀ {l:Br} {ms:List Ev},(∀ b∈l,b.length≤200)→(l.foldl (fun ms b=>b.foldl addS ms) ms).length≤ms.length+200*l.length
 | [],ms,_=>by simp
 | b :: l,ms,h=>by
  have h1:=n0E (l:=l) (ms:=b.foldl addS ms) fun x hx=>h x (by simp [hx])
  have h2:=m0l (l:=b) (ms:=ms)
  have h3:=h b (by simp)
  rw [List.foldl_cons,List.length_cons];omega
theorem o0P {t:Br}(ht:TrK t):(sigM t).length≤1000000:=by
 have h:=n0E (l:=t) (ms:=[]) fun b hb=>(ht.ok b hb).1.len
 have:=ht.len
 unfold sigM
 simp only [List.length_nil] at h
 omega
theorem Con.vw {P:Program}{f:FuncId}{args:List D}{Q Q':D→List Row→Prop}(h:Con P f args [] Q)(hq:∀ d H',Q d H'→∃ d0,Vw H' d d0∧Q' d0 []):Con P f args [] Q' :=
 ⟨h.1,fun w φ X vs hH ha=>(h.2 w φ X vs hH ha).mono fun _ _ ⟨v,d,H1,h1,h2,φ',ho,hr,hv⟩=>by
  obtain ⟨d0,hw,hq'⟩:=hq d H1 h2
  have hA:∀ b,Av X φ' [] b→X b:=by
   rintro b (hb|⟨r,x,hx,_⟩)
   ·exact hb
   ·simp at hx
  exact ⟨v,d0,[],h1,hq',φ',⟨Nat.le_refl _,ho.same,ho.keep,fun b hb=>by obtain ⟨r,x,hx,_⟩:=hb;simp at hx⟩,⟨fun r x hx=>by simp at hx,fun r s x y hx=>by simp at hx,fun r x hx=>by simp at hx,hr.old,fun p hp=>(hr.gl p hp).thin fun b hb=>.inl (hA b hb)⟩,hw.ok hr hA v hv⟩⟩
theorem RF.trim {w:World}{A:Nat→Prop}{a b x:List F}{n:Nat}{u:Value}(h:RF w A (.s x n) u)(hx:x=a++b):RF w A (.s a n) u:=by
 cases h with
 | s cs h1 h2 h3 h4 =>
  subst hx
  refine .s (cs.take a.length) h1 (by rw [List.length_take,h2,List.length_append];omega) (fun i u hu=>?_) (fun i y u hy hu=>?_)
  ·rw [List.getElem?_take] at hu
   split at hu
   ·exact h3 i u hu
   ·cases hu
  ·rw [List.getElem?_take] at hu
   split at hu
   ·exact h4 i y u (by rw [List.getElem?_append_left (by assumption)];exact hy) hu
   ·cases hu
 | s0 =>
  have:a=[]:=(List.append_eq_nil_iff.1 hx.symm).1
  subst this
  exact .s0
theorem Con.trim {P:Program}{f:FuncId}{args:List D}{H H0:List Row}{A:List F}{n:Nat}(h:Con P f args H fun r h'=>∃ xs,r = .f (.s (A++xs) n)∧h'=H0):Con P f args H fun r h'=>r = .f (.s A n)∧h'=H0 :=
 ⟨h.1,fun w φ X vs hH ha=>(h.2 w φ X vs hH ha).mono fun _ _ ⟨v,d,H1,h1,⟨xs,h2,h3⟩,φ',ho,hr,hv⟩=>by
  subst h2
  refine ⟨v,_,H1,h1,⟨rfl,h3⟩,φ',ho,hr,?_⟩
  cases hv with|f hv=>exact .f (hv.trim rfl)⟩
theorem y0v (t:Br)(ht:TrK t):Con Tryz.prog 31 [.ag [.f (fBr t)]] [] fun r H'=>r = .f (fEv (allL (sigM t)))∧H'=[] :=
 (v0K t ht (o0Z ht) (o0P ht)).vw fun d H' ⟨h1,h2⟩=>by
  refine ⟨_,?_,rfl,rfl⟩
  subst h1 h2
  unfold alR alH
  by_cases hz:(allL (sigM t)).length=0
  ·rw [if_pos hz,if_pos hz,List.eq_nil_of_length_eq_zero hz];exact .nil
  ·rw [if_neg hz,if_neg hz];exact s0t rfl rfl rfl
theorem f0J (t:Br)(ht:TrK t):Con Tryz.prog 27 [.ag [.f (fBr t)]] [] fun r H'=>r = .f (fEv (misL t))∧H'=[]:=(r0u t ht (o0Z ht) (o0P ht)).trim
instance {t:Br}{H:List Row}{K:D→List Row→Prop}[ht:Kn (TrK t)]:Wa (a0R Tryz.prog (.fn 27 []) [.ag [.f (fBr t)]] H K) (K (.f (fEv (misL t))) H):=⟨fun h=>a0C (f0J t ht.h) rfl rfl rfl h⟩
instance {t:Br}{H:List Row}{K:Bool→D→List Row→Prop}[ht:Kn (TrK t)]:Wa (a0e Tryz.prog (.fn 31 []) [.ag [.f (fBr t)]] H K) (K true (.f (fEv (allL (sigM t)))) H):=⟨fun h=>a0M (y0v t ht.h) rfl rfl rfl h⟩
instance {t:Br}{H:List Row}{K:Bool→D→List Row→Prop}[ht:Kn (TrK t)]:Wa (a0e Tryz.prog (.fn 27 []) [.ag [.f (fBr t)]] H K) (K true (.f (fEv (misL t))) H):=⟨fun h=>a0M (f0J t ht.h) rfl rfl rfl h⟩
theorem u0J {t:Br}(ht:TrK t):(allL (sigM t)).length≤1000000:=by
 have h3:=o0P ht
 unfold allL;rw [List.length_map,(b0q _).length_eq,List.length_map];exact h3
theorem h0j {t:Br}(ht:TrK t):(misL t).length≤1000000:=by
 have h1:=List.length_filter_le (fun e=>!hadB (a0N s0 (curL t)).2 e) (allL (sigM t))
 have:=u0J ht
 unfold misL;omega
def o0N (t:Br):List Bs:=if (a0N s0 (curL t)).2.closed=0 then [] else (misL t).map (·.name)
theorem f1j {H:List Row}{r n:Nat}{xs:List F}{l:List Bs}(hr:H[r]?=some (.data 9 xs))(hx:xs=l.map fun k=>F.v (.string (BB k)))(hn:n=l.length):Vw H (.sl r 0 n) (.f (fNm l)):=by
 subst hx;subst hn
 exact .sl hr (fun e=>by rw [List.eq_nil_of_length_eq_zero e];rfl)
set_option maxRecDepth 100000 in
theorem q0b (t:Br)(ht:TrK t):Con Tryz.prog 32 [.ag [.f (fBr t)]] [] fun r H'=>r = .f (fNm (o0N t))∧H'=[]:=by
 haveI:Kn (TrK t):=⟨ht⟩
 haveI:Kn (FitL (curL t)):=⟨ht.cur.fitL⟩
 have hml:=h0j ht
 refine Con.walk good n0z (by simp) ?_
 unfold g0l o0N
 simp only [a0K]
 by_cases hz:(a0N s0 (curL t)).2.closed=0
 ·rw [if_pos hz]
  repeat' (with_reducible first|refine Wx.h ?_|refine Wb.h fun K hK=>?_|(refine hK _ ?_;clear hK K)|(refine wT ?_ ?_;assumption)|(refine wF ?_ ?_;assumption)|(refine Wy.h ?_ ?_;kernel_rfl)|refine Wq.h ?_ ?_<;>intro h<;>try (exfalso;omega)|refine Wu.h ?_ ?_<;>intro h<;>try simp only [h]|((fail_if_success refine Wz.h ?_);first|simp (disch:=omega) only [↓LD,LA,a0A,seval,LBr,stF]|(refine And.intro ?_ ?_;omega)|simp only [D.int,D.bool]))
  exact end1 rfl rfl (by kernel_rfl) .nil ⟨rfl,rfl⟩
 rw [if_neg hz]
 generalize hm:misL t=m at *
 repeat' (with_reducible first|refine Wx.h ?_|refine Wb.h fun K hK=>?_|(refine hK _ ?_;clear hK K)|(refine wT ?_ ?_;assumption)|(refine wF ?_ ?_;assumption)|(refine Wy.h ?_ ?_;kernel_rfl)|refine Wq.h ?_ ?_<;>intro h<;>try (exfalso;omega)|refine Wu.h ?_ ?_<;>intro h<;>try simp only [h]|((fail_if_success refine Wz.h ?_);first|simp (disch:=omega) only [↓LD,LA,a0A,seval,LBr,LEv,stF,hm]|(refine And.intro ?_ ?_;omega)|simp only [D.int,D.bool]))
 refine HS.view (View.void 9) ?_
 refine HS.view (View.slot 3 (.sl 2 0 0) (.no (by show 2<3;omega))) ?_
 refine HS.loopG [3,18,19,20] (fun i:Nat=>⟨frm 31 [(3,.sl 0 0 i),(18,.f (fEv m)),(19,D.int m.length),(20,D.int i)],[.data 9 (((m.take i).map (·.name)).map fun k=>F.v (.string (BB k)))],[]⟩) (fun i=>i≤m.length) (fun i=>m.length-i) 0 (by kernel_rfl) (Nat.zero_le _) ?_
 rintro i hi
 by_cases hil:i<m.length
 ·have hlen:(((m.take i).map (·.name)).map fun k=>F.v (.string (BB k))).length=i:=by simp;omega
  have ha:(((m.take i).map (·.name)).map fun k=>F.v (.string (BB k)))++[F.v (.string (BB (gt m i).name))]=(((m.take (i+1)).map (·.name)).map fun k=>F.v (.string (BB k))):=by
   rw [List.take_succ_eq_append_getElem hil,List.map_append,List.map_append,←b0R hil];rfl
  repeat' (with_reducible first|refine Wx.h ?_|refine Wb.h fun K hK=>?_|(refine hK _ ?_;clear hK K)|(refine wT ?_ ?_;assumption)|(refine wF ?_ ?_;assumption)|(refine Wy.h ?_ ?_;kernel_rfl)|refine Wq.h ?_ ?_<;>intro h<;>try (exfalso;omega)|refine Wu.h ?_ ?_<;>intro h<;>try simp only [h]|((fail_if_success refine Wz.h ?_);first|simp (disch:=omega) only [↓LD,LA,a0A,seval,LEv,b0k,a0J,Ev.cs,hlen,ha,List.map_cons,List.map_nil,-a0A]|(refine And.intro ?_ ?_;omega)|simp only [D.int,D.bool]))
  exact Next.mk (i+1) (by kernel_rfl) (by omega) (by omega)
 ·rw [List.take_of_length_le (by omega)]
  obtain rfl:i=m.length:=by omega
  repeat' (with_reducible first|refine Wx.h ?_|refine Wb.h fun K hK=>?_|(refine hK _ ?_;clear hK K)|(refine wT ?_ ?_;assumption)|(refine wF ?_ ?_;assumption)|(refine Wy.h ?_ ?_;kernel_rfl)|refine Wq.h ?_ ?_<;>intro h<;>try (exfalso;omega)|refine Wu.h ?_ ?_<;>intro h<;>try simp only [h]|((fail_if_success refine Wz.h ?_);first|simp (disch:=omega) only [↓LD,LA,a0A,seval]|(refine And.intro ?_ ?_;omega)|simp only [D.int,D.bool]))
  exact end1 rfl rfl (by kernel_rfl) (f1j rfl rfl (by simp)) ⟨rfl,rfl⟩
instance {t:Br}{H:List Row}{K:D→List Row→Prop}[ht:Kn (TrK t)]:Wa (a0R Tryz.prog (.fn 32 []) [.ag [.f (fBr t)]] H K) (K (.f (fNm (o0N t))) H):=⟨fun h=>a0C (q0b t ht.h) rfl rfl rfl h⟩
theorem z0l {t:Br}(ht:TrK t):(o0N t).length≤1000000:=by
 have:=h0j ht
 unfold o0N;split
 ·simp
 ·rw [List.length_map];exact this
theorem q0m {a:Bs}:(BB a).toList=a:=by rw [ByteArray.toList_eq];rfl
theorem b0e:∀ (x y:Bs),Op.bytesLess x y=decide (x<y)
 | [],[]=>by simp [Op.bytesLess]
 | _ :: _,[]=>by simp [Op.bytesLess]
 | [],_ :: _=>by simp [Op.bytesLess]
 | a :: x,b :: y=>by
  rw [Op.bytesLess,b0e x y]
  simp only [List.cons_lt_cons_iff]
  by_cases h1:a<b<;>by_cases h2:a=b<;>by_cases h3:x<y<;>simp [h1,h2,h3]
theorem ltB {a b:Bs}:(Op.bytesLess (BB a).toList (BB b).toList=true)=(a<b):=by rw [q0m,q0m,b0e,decide_eq_true_eq]
theorem b1U {a b:Bs}(h:leS a b=true)(hn:a≠b):a<b:=by
 rw [g0Y,decide_eq_true_eq] at h
 have h2:=t0B a b
 have h3:¬ b<a:=h
 rw [b0e,b0e,decide_eq_false h3] at h2
 simpa [hn] using h2
theorem z0G {ms:List Ev}(h:(ms.map (·.name)).Nodup):(b0W ms).Pairwise (· < ·):=by
 have h1:(b0W ms).Pairwise (fun a b=>leS a b=true):=c0t (fun a b c=>by
   rw [g0Y,g0Y,g0Y,decide_eq_true_eq,decide_eq_true_eq,decide_eq_true_eq];exact List.le_trans) (fun a b=>by
   rw [g0Y,g0Y,Bool.or_eq_true,decide_eq_true_eq,decide_eq_true_eq];exact List.le_total a b) _
 have h2:(b0W ms).Nodup:=(b0q ms).nodup_iff.2 h
 exact (h1.and h2).imp fun ⟨ha,hb⟩=>b1U ha hb
theorem f1B (t:Br):((allL (sigM t)).map (·.name)).Pairwise (· < ·):=by rw [w0n];exact z0G (n0w t).nd
theorem at6n {g:List Ev}{k:Nat}(hk:k<g.length):(g.flatMap Ev.cs)[k*9+6]?=some (F.v (.string (BB (gt g k).name))):=a0s (j:=6) Ev.cs_len hk (by omega)
theorem f1T {l:List Bs}{k:Nat}(hk:k<l.length):(l.map fun k=>F.v (.string (BB k)))[k*1]?=some (F.v (.string (BB (gt l k)))):=by rw [Nat.mul_one,List.getElem?_map,List.getElem?_eq_getElem hk,←b0R hk];rfl
def posS (k:Bs):List Ev→Nat
 | []=>0
 | x :: l=>if Op.bytesLess (BB x.name).toList (BB k).toList=true then posS k l+1 else 0
theorem b1d {k:Bs}:∀ {l:List Ev},posS k l≤l.length
 | []=>Nat.le_refl _
 | x :: l=>by
  have:=b1d (k:=k) (l:=l)
  rw [posS,List.length_cons];split<;>omega
def insS (o:List Ev)(e:Ev):List Ev:=if posS e.name o<o.length∧(gt o (posS e.name o)).name=e.name then o else o.take (posS e.name o)++e :: o.drop (posS e.name o)
def addT (o:List Ev)(e:Ev):List Ev:=if e.ty=7 then insS o e else o
def refA (t:Br):List Ev:=t.foldl (fun o b=>b.foldl addT o) []
theorem o0t {k:Bs}:∀ {o:List Ev},(o.map (·.name)).Pairwise (· < ·)→(∀ x∈o.take (posS k o),x.name<k)∧(∀ x∈o.drop (posS k o),¬ x.name<k)
 | [],_=>⟨fun x h=>by simp at h,fun x h=>by simp at h⟩
 | y :: o,hp=>by
  rw [List.map_cons] at hp
  obtain ⟨h1,h2⟩:=List.pairwise_cons.1 hp
  have ih:=o0t (k:=k) h2
  rw [posS]
  by_cases h:y.name<k
  ·rw [if_pos (ltB.symm ▸ h),List.take_succ_cons,List.drop_succ_cons]
   refine ⟨fun x hx=>?_,ih.2⟩
   rcases List.mem_cons.1 hx with rfl|hx
   ·exact h
   ·exact ih.1 x hx
  ·rw [if_neg (ltB.symm ▸ h)]
   refine ⟨fun x hx=>by simp at hx,fun x hx=>?_⟩
   rw [List.drop_zero] at hx
   rcases List.mem_cons.1 hx with rfl|hx
   ·exact h
   ·exact fun h3=>h (List.lt_trans (h1 _ (List.mem_map.2 ⟨x,hx,rfl⟩)) h3)
theorem c1f {a b:Bs}(h:¬ a<b):b<a∨a=b:=by
 have h2:=t0B b a
 rw [b0e,b0e,decide_eq_false h] at h2
 by_cases h3:b<a
 ·exact .inl h3
 ·rw [decide_eq_false h3] at h2
  right
  have:b=a:=by simpa using h2
  exact this.symm
structure InvS (ms o:List Ev):Prop where
 perm:o.Perm ms
 lt:(o.map (·.name)).Pairwise (· < ·)
theorem InvS.add {ms o:List Ev}{e:Ev}(h:InvS ms o):InvS (addS ms e) (addT o e):=by
 unfold addS addT
 by_cases h7:e.ty=7
 rotate_left
 ·rw [if_neg (fun x=>h7 x.2),if_neg h7];exact h
 rw [if_pos h7]
 obtain ⟨s1,s2⟩:=o0t (k:=e.name) h.lt
 have hle:=b1d (k:=e.name) (l:=o)
 unfold insS
 generalize posS e.name o=q at *
 have hin:(c0j ms e.name).isNone=true↔∀ x∈o,x.name≠e.name:=by
  rw [findE_none,←(h.perm.map (·.name)).mem_iff,List.mem_map]
  exact ⟨fun h x hx e2=>h ⟨x,hx,e2⟩,fun h ⟨x,hx,e2⟩=>h x hx e2⟩
 by_cases hc:q<o.length∧(gt o q).name=e.name
 ·rw [if_pos hc,if_neg (fun x=>hin.1 x.1 _ (a0L hc.1) hc.2)];exact h
 ·rw [if_neg hc]
  have hge:∀ x∈o.drop q,e.name<x.name:=by
   intro x hx
   rcases c1f (s2 x hx) with h1|h1
   ·exact h1
   ·exfalso
    have hql:q<o.length:=by
     rcases Nat.lt_or_ge q o.length with h|h
     ·exact h
     ·rw [List.drop_of_length_le h] at hx;simp at hx
    rw [a0G hql] at hx
    rcases List.mem_cons.1 hx with rfl|hx
    ·exact hc ⟨hql,h1⟩
    ·have hp:=h.lt
     rw [←List.take_append_drop q o,List.map_append,List.pairwise_append,a0G hql,List.map_cons] at hp
     have:=(List.pairwise_cons.1 hp.2.1).1 x.name (List.mem_map.2 ⟨x,hx,rfl⟩)
     rw [h1] at this
     exact s2 (gt o q) (by rw [a0G hql];simp) this
  rw [if_pos ⟨hin.2 fun x hx e2=>by
   rw [←List.take_append_drop q o] at hx
   rcases List.mem_append.1 hx with hx|hx
   ·have:=s1 x hx;rw [e2] at this;exact List.lt_irrefl _ this
   ·have:=hge x hx;rw [e2] at this;exact List.lt_irrefl _ this,h7⟩]
  refine ⟨?_,?_⟩
  ·have h1:(o.take q++e :: o.drop q).Perm (e :: (o.take q++o.drop q)):=List.perm_middle
   rw [List.take_append_drop] at h1
   exact h1.trans ((h.perm.cons e).trans (List.perm_append_singleton e ms).symm)
  ·have hp:=h.lt
   rw [←List.take_append_drop q o,List.map_append,List.pairwise_append] at hp
   rw [List.map_append,List.map_cons,List.pairwise_append,List.pairwise_cons]
   refine ⟨hp.1,⟨fun k hk=>?_,hp.2.1⟩,fun k hk j hj=>?_⟩
   ·obtain ⟨x,hx,rfl⟩:=List.mem_map.1 hk;exact hge x hx
   ·obtain ⟨x,hx,rfl⟩:=List.mem_map.1 hk
    rcases List.mem_cons.1 hj with rfl|hj
    ·exact s1 x hx
    ·exact hp.2.2 _ hk _ hj
theorem InvS.addAll:∀ {l ms o:List Ev},InvS ms o→InvS (l.foldl addS ms) (l.foldl addT o)
 | [],_,_,h=>h
 | e :: l,_,_,h=>InvS.addAll (l:=l) h.add
theorem InvS.all:∀ {t:Br} {ms o:List Ev},InvS ms o→InvS (t.foldl (fun ms b=>b.foldl addS ms) ms) (t.foldl (fun o b=>b.foldl addT o) o)
 | [],_,_,h=>h
 | b :: t,_,_,h=>InvS.all (t:=t) (h.addAll (l:=b))
theorem c1L (t:Br):InvS (sigM t) (refA t):=InvS.all ⟨.nil,.nil⟩
theorem y0B {ms:List Ev}(hn:(ms.map (·.name)).Nodup):∀ e∈ms,c0j ms e.name=some e:=by
 induction ms with
 | nil=>intro e h;simp at h
 | cons x ms ih =>
  intro e he
  rw [List.map_cons,List.nodup_cons] at hn
  unfold c0j at ih ⊢
  rw [List.find?_cons]
  rcases List.mem_cons.1 he with rfl|he
  ·simp
  ·have:e.name≠x.name:=fun h=>hn.1 (by rw [←h];exact List.mem_map.2 ⟨e,he,rfl⟩)
   rw [decide_eq_false this]
   exact ih hn.2 e he
theorem r0N {ms:List Ev}(hn:(ms.map (·.name)).Nodup):(allL ms).Perm ms:=by
 have h1:(allL ms).Perm ((ms.map (·.name)).map fun k=>(c0j ms k).getD default):=(b0q ms).map _
 have h2:((ms.map (·.name)).map fun k=>(c0j ms k).getD default)=ms:=by
  rw [List.map_map]
  conv=>rhs;rw [←List.map_id ms]
  apply List.map_congr_left
  intro e he
  show (c0j ms e.name).getD default=e
  rw [y0B hn e he];rfl
 rw [h2] at h1;exact h1
theorem z0N (t:Br):refA t=allL (sigM t):=by
 have h:=c1L t
 have hn:=(n0w t).nd
 have hp:(refA t).Perm (allL (sigM t)):=h.perm.trans (r0N hn).symm
 have h1:(refA t).Pairwise (fun a b=>a.name<b.name):=by have:=h.lt;rwa [List.pairwise_map] at this
 have h2:(allL (sigM t)).Pairwise (fun a b=>a.name<b.name):=by have:=f1B t;rwa [List.pairwise_map] at this
 exact List.Perm.eq_of_pairwise (le:=fun a b:Ev=>a.name<b.name) (fun a b _ _ h3 h4=>absurd (List.lt_trans h3 h4) (List.lt_irrefl _)) h1 h2 hp
def extS:Ext:=fun f=>match Nat.beq f 69 with
 | true=>some (n0t 113 9 sortS)
 | false=>none
theorem e1V:∀ f g,extS f=some g→e0Y Tryz.prog f g:=by
 intro f g h
 unfold extS at h
 split at h
 ·rename_i hf
  obtain rfl:=Nat.eq_of_beq_eq_true hf
  cases h
  exact m0j
 ·cases h
theorem c1C:u0K (runF Tryz.prog extS 60 29 [] [])=true:=by kernel_rfl
theorem x0a:Con Tryz.prog 29 [] [] fun r H'=>r=D.bool true∧H'=[] :=
 (Con.run good e1V (d1N (by kernel_rfl)) (p0p (by rw [←e1S];exact c1C))).mono fun _ _ h=>h
instance {H:List Row}{K:Bool→D→List Row→Prop}:Wa (a0e Tryz.prog (.fn 29 []) [] H K) (K true (.f (.v (.bool true))) H):=⟨fun h=>a0M x0a rfl rfl rfl h⟩
def NextV (P:Program)(n0:Nat){α:Type}(st:α→St)(p:α→Prop)(m:α→Nat)(x:α)(s:St):Prop:=∃ y,View P n0 s (st y)∧p y∧m y<m x
theorem NextV.mk {P:Program}{n0:Nat}{α:Type}{st:α→St}{p:α→Prop}{m:α→Nat}{x:α}{s s1:St}(keep:List Nat)(y:α)(h:h0L n0 keep s=some s1)(hv:View P n0 s1 (st y))(hp:p y)(hm:m y<m x):NextV P n0 st p m x s:=⟨y,(View.sweep h).trans hv,hp,hm⟩
instance {P:Program}{n0:Nat}{α:Type}{st:α→St}{p:α→Prop}{m:α→Nat}{x:α}{s:St}:Wz (NextV P n0 st p m x s):=⟨id⟩
theorem HS.loopV {P:Program}{n0:Nat}{s:St}{Q:Out→St→Prop}{c:SCode}{α:Type}(st:α→St)(p:α→Prop)(m:α→Nat)(x0:α)(hs:View P n0 s (st x0))(h0:p x0)
  (hbody:∀ x,p x→HS P n0 c (st x) (g0Q (NextV P n0 st p m x) Q)):HS P n0 (.loop c) s Q:=by
 refine HS.view hs ?_
 intro k hk
 cases k with
 | loop a =>
  simp only [a0k] at hk
  injection hk with h1
  intro X w0 φ0 H0 w φ a' K hn hr hK
  refine wp_loop_rounds (m x0+1) ?_
  have key:∀ (k:Nat) (x:α) (w:World) (φ:Nat→Nat × Nat) (a':Act),m x≤k→p x→RunW P X w0 φ0 H0 w φ (st x) a'→Code.rounds P a K (k+1) a' w:=by
   intro k
   induction k with
   | zero =>
    intro x w φ a' hm hp hr
    rw [rounds_succ]
    refine hbody x hp a h1 X w0 φ0 H0 w φ a' _ hn hr ?_
    intro out s' w' φ' a' hq hr'
    cases out with
    | normal=>obtain ⟨y,_,_,hlt⟩:=hq;omega
    | exit i=>exact hK _ s' w' φ' a' hq hr'
    | ret=>exact hK _ s' w' φ' a' hq hr'
   | succ k ih =>
    intro x w φ a' hm hp hr
    rw [rounds_succ]
    refine hbody x hp a h1 X w0 φ0 H0 w φ a' _ hn hr ?_
    intro out s' w' φ' a'' hq hr'
    cases out with
    | normal =>
     obtain ⟨y,hsw,hp',hlt⟩:=hq
     obtain ⟨φ2,hr2⟩:=hsw X w0 φ0 H0 w' φ' a'' hn hr'
     exact ih y w' φ2 a'' (by omega) hp' hr2
    | exit i=>exact hK _ s' w' φ' a'' hq hr'
    | ret=>exact hK _ s' w' φ' a'' hq hr'
  exact key (m x0) x0 w φ a' (Nat.le_refl _) h0 hr
 | region id ops draw=>cases draw<;>simp only [a0k] at hk<;>first|(split at hk<;>first|cases hk|(split at hk<;>cases hk))|cases hk
 | cond c a b=>simp only [a0k] at hk;split at hk<;>cases hk
 | _=>simp [a0k] at hk
def e0C:SCode :=
  (jq ([.a 1 (.box 50 (.t 0)),.a 2 (.mv kN)]) (jq ([.a 3 (.mv kN)]) (.seq (jq ([jk 4 0]) (.block 0 (.loop (.seq (jq ([jm 9 4,jo 10 0 1,jl 11 10,je 12
 11,jB 13 .lss 9 12]) (jc 13 .skip (.exit 0))) (.seq (.block 1 (jq ([jk 5 0]) (.block 2 (.loop (.seq (jq ([jm 16 5,jo 17 0 1,jl 18 17,jm 19 4,jx 20
 1 18 19,jl 21 20,je 22 21,jB 23 .lss 16 22]) (jc 23 .skip (.exit 2))) (.seq (.block 3 (jq ([jo 26 0 1,jl 27 26,jm 28 4,jx 29 1 27 28,jl 30 29,
 jm 31 5,jx 32 9 30 31,jL 33 9 32,.a 6 (.alloc 73 [jI,jI,jI,jI,jI,jI,(.f (.v (.string ⟨#[]⟩))),jN,jN]),.n (.store 9 (.t 6) (.t 33))]) (.seq
 (jq ([jo 34 3 6,jl 35 34,jb 36 .neq 35 7]) (jc 36 (.exit 3) .skip)) (jq ([jk 7 0]) (.seq (.block 4 (.loop (.seq (.seq (.drw [jm 37 7,jm 38 3,je 39
 38,jB 40 .lss 37 39,jm 41 40,gM 42 3 41 true,gM 43 7 41 true,jG 44 (.idx 9 (.t 42) (.t 43)) 41 true,gO 45 6 44 41 true,gL 46 45 41 true,gO 47 6
 6 41 true,gL 48 47 41 true,jG 49 (.bin .lss (.t 46) (.t 48)) 41 true,.a 50 (.pick (.t 41) (.t 49) kF)] [0,0,2,7,15,31,31,127,255,511,31,
 1055,4095,8191]) (jc 50 .skip (.exit 4))) (.block 5 (.ops [jm 51 7,jb 52 .add 51 1,jm 7 52]))))) (.seq (.seq (.drw [jm 53 7,jm 54 3,je 55 54,jB
 56 .lss 53 55,jm 57 56,gM 58 3 57 true,gM 59 7 57 true,jG 60 (.idx 9 (.t 58) (.t 59)) 57 true,gO 61 6 60 57 true,gL 62 61 57 true,gO 63 6 6 57
 true,gL 64 63 57 true,jG 65 (.bin .eql (.t 62) (.t 64)) 57 true,.a 66 (.pick (.t 57) (.t 65) kF)] [0,0,2,7,15,31,31,127,255,511,31,1055,
 4095,8191]) (jc 66 (.exit 3) .skip)) (jq ((ap [.a 67 (.bsl 73 9 0 [] []),jm 68 3,jm 69 7,.a 70 (.sub 9 73 (.t 68) none (some (.t 69)) none),.a 71
 (.app 73 9 112 (.t 67) (.t 70))] [jm 8 71])) (jq ((ap [jm 72 8,jL 73 9 6,.a 74 (.bsl 73 9 1 [jI,jI,jI,jI,jI,jI,(.f (.v (.string ⟨#[]⟩))),jN,
 jN] [(0,(.t 73))]),.a 75 (.app 73 9 112 (.t 72) (.t 74))] [jm 8 75])) (.ops (ap [jm 76 8,jm 77 3,jm 78 7,.a 79 (.sub 9 73 (.t 77) (some (.t 78))
 none none),.a 80 (.app 73 9 112 (.t 76) (.t 79))] [jm 3 80])))))))))) (.ops [jm 24 5,jb 25 .add 24 1,jm 5 25]))))))) (.ops [jm 14 4,jb 15 .add 14
 1,jm 4 15])))))) (jq ([jm 81 3,jm 2 81]) .ret))))
theorem h0b:Fn Tryz.prog 35 82 [.t 2] e0C:=.of Tryz.func35 (by kernel_rfl)
def g0f:SCode :=
  (jq ([.a 1 (.box 50 (.t 0)),.a 2 (.mv kN)]) (jq ((ap [jL 9 1 1,.a 10 (.call (kC 71) [(.t 9)])] (ap [.a 11 (.call (kC 28) [(.t 10)])] [jm 8 11,jE 12
 0 8,jE 13 1 8,.a 3 (.alloc 65 [jI,jI,jI,jI,jF,jN,jN,jN,jN]),.n (.store 9 (.t 3) (.t 12)),jm 4 13]))) (jq ([.a 5 (.mv kN)]) (jq ((ap [jL 14
 1 1,.a 15 (.call (kC 35) [(.t 14)])] [jm 6 15])) (.seq (jq ([jk 7 0]) (.block 0 (.loop (.seq (jq ([jm 16 7,jm 17 6,je 18 17,jB 19 .lss 16 18]) (jc
 19 .skip (.exit 0))) (.seq (.block 1 (.seq (.drw [jL 22 9 3,jm 23 6,jm 24 7,jx 25 9 23 24,jo 26 6 25,jl 27 26,.a 28 (.call (kC 30) [(.t 22),(.t
 27)]),.a 29 (.unot (.t 28))] [0,0,0,6,14,30,63,127]) (jc 29 (.ops (ap [jm 30 5,jm 31 6,jm 32 7,jx 33 9 31 32,jL 34 9 33,.a 35 (.bsl 73 9 1
 [jI,jI,jI,jI,jI,jI,(.f (.v (.string ⟨#[]⟩))),jN,jN] [(0,(.t 34))]),.a 36 (.app 73 9 112 (.t 30) (.t 35))] [jm 5 36])) .skip))) (.ops [jm 20
 7,jb 21 .add 20 1,jm 7 21])))))) (jq ([jm 37 5,jm 2 37]) .ret))))))
theorem n0Y:Fn Tryz.prog 36 38 [.t 2] g0f:=.of Tryz.func36 (by kernel_rfl)
def h0G:SCode :=
  (jq ([.a 1 (.box 50 (.t 0)),.a 2 (.mv kN)]) (jq ((ap [jL 9 1 1,.a 10 (.call (kC 71) [(.t 9)])] (ap [.a 11 (.call (kC 28) [(.t 10)])] [jm 8 11,jE 12
 0 8,jE 13 1 8,.a 3 (.alloc 65 [jI,jI,jI,jI,jF,jN,jN,jN,jN]),.n (.store 9 (.t 3) (.t 12)),jm 4 13]))) (.seq (jq ([jo 14 3 3,jl 15 14,jb 16
 .eql 15 0]) (jc 16 (jq ([.a 2 (.mv kN)]) .ret) .skip)) (jq ([.a 5 (.mv kN)]) (jq ((ap [jL 17 1 1,.a 18 (.call (kC 36) [(.t 17)])] [jm 6 18])) (.seq
 (jq ([jk 7 0]) (.block 0 (.loop (.seq (jq ([jm 19 7,jm 20 6,je 21 20,jB 22 .lss 19 21]) (jc 22 .skip (.exit 0))) (.seq (.block 1 (.ops (ap [jm 25 5,
 jm 26 6,jm 27 7,jx 28 9 26 27,jo 29 6 28,jl 30 29,.a 31 (.bsl 9 1 1 [(.f (.v (.string ⟨#[]⟩)))] [(0,(.t 30))]),.a 32 (.app 9 1 16 (.t 25) (.t
 31))] [jm 5 32]))) (.ops [jm 23 7,jb 24 .add 23 1,jm 7 24])))))) (jq ([jm 33 5,jm 2 33]) .ret)))))))
theorem n0n:Fn Tryz.prog 33 34 [.t 2] h0G:=.of Tryz.func33 (by kernel_rfl)
def g0o:SCode :=
  (jq ([.a 1 (.box 50 (.t 0)),.a 2 (.mv kN)]) (.seq (jq ([jo 3 0 1,jl 4 3,je 5 4,jb 6 .eql 5 0]) (jc 6 (jq ([.a 2 (.mv kN)]) .ret) .skip)) (jq ([jo 7
 0 1,jl 8 7,.a 9 (.idx 1 (.t 8) (kI 0)),jl 10 9,jm 2 10]) .ret)))
theorem o0U:Fn Tryz.prog 71 11 [.t 2] g0o:=.of Tryz.func71 (by kernel_rfl)
theorem View.same {P:Program}{n0:Nat}{s:St}:View P n0 s s:=fun X w0 φ0 H0 w φ a _ hr=>⟨φ,hr⟩
theorem o0m {H:List Row}{E:TypeId}{b:List Ev}{h:Nat}:subS H 9 E (.f (fEv b)) h b.length=some (.f (fEv (b.drop h))):=by
 rw [fEv,i0h,fEv,List.length_drop,p0J Ev.cs_len,List.take_of_length_le (by rw [a0J,List.length_drop];exact Nat.le_refl _)]
theorem q0n (t:Br)(ht:TrK t):Con Tryz.prog 71 [.ag [.f (fBr t)]] [] fun r H'=>r = .f (fEv (curL t))∧H'=[]:=by
 have hlen:=ht.len
 refine Con.walk good o0U (by simp) ?_
 unfold g0o
 simp only [a0K]
 by_cases hz:t.length=0
 ·rw [curL,if_pos hz]
  repeat' (with_reducible first|refine Wx.h ?_|refine Wb.h fun K hK=>?_|(refine hK _ ?_;clear hK K)|(refine wT ?_ ?_;assumption)|(refine wF ?_ ?_;assumption)|(refine Wy.h ?_ ?_;kernel_rfl)|refine Wq.h ?_ ?_<;>intro h<;>try (exfalso;omega)|refine Wu.h ?_ ?_<;>intro h<;>try simp only [h]|((fail_if_success refine Wz.h ?_);first|simp (disch:=omega) only [↓LD,LA,a0A,seval,LBr]|(refine And.intro ?_ ?_;omega)|simp only [D.int,D.bool]))
  exact end1 rfl rfl (by kernel_rfl) .nil ⟨rfl,rfl⟩
 ·rw [curL,if_neg hz]
  have e0:=u0x (t:=t) (k:=0) (by omega)
  rw [Nat.zero_mul] at e0
  repeat' (with_reducible first|refine Wx.h ?_|refine Wb.h fun K hK=>?_|(refine hK _ ?_;clear hK K)|(refine wT ?_ ?_;assumption)|(refine wF ?_ ?_;assumption)|(refine Wy.h ?_ ?_;kernel_rfl)|refine Wq.h ?_ ?_<;>intro h<;>try (exfalso;omega)|refine Wu.h ?_ ?_<;>intro h<;>try simp only [h]|((fail_if_success refine Wz.h ?_);first|simp (disch:=omega) only [↓LD,LA,a0A,seval,LBr,e0]|(refine And.intro ?_ ?_;omega)|simp only [D.int,D.bool]))
  exact end1 rfl rfl (by kernel_rfl) .f ⟨rfl,rfl⟩
instance {t:Br}{H:List Row}{K:D→List Row→Prop}[ht:Kn (TrK t)]:Wa (a0R Tryz.prog (.fn 71 []) [.ag [.f (fBr t)]] H K) (K (.f (fEv (curL t))) H):=⟨fun h=>a0C (q0n t ht.h) rfl rfl rfl h⟩
theorem View.evz {n0 n:Nat}{e:List (Nat × D)}{H:List Row}(i:Nat){r m:Nat}{xs:List F}{l:List Ev}(ht:look i e = .sl r 0 m)(hr:H[r]?=some (.data 73 xs))(hx:xs=l.flatMap Ev.cs)(hm:m=l.length)(hin:i<n):View Tryz.prog n0 ⟨Mir.frm n e,H,[]⟩ ⟨Mir.frm n ((i,.f (fEv l)) :: e),H.set r .dead,[]⟩:=by
 subst hx;subst hm;exact View.fzd i ht hr i0g a0J hin (by decide)
set_option maxRecDepth 100000 in
theorem e0H (t:Br)(ht:TrK t):Con Tryz.prog 35 [.ag [.f (fBr t)]] [] fun r H'=>r = .f (fEv (refA t))∧H'=[]:=by
 have hlen:=ht.len
 refine Con.walk good h0b (by simp) ?_
 unfold e0C
 simp only [a0K]
 refine HS.seq ?_
 repeat' (with_reducible first|refine Wa.h ?_|refine Wr.h ?_|refine Wb.h fun K hK=>?_|(refine hK _ ?_;clear hK K)|(refine wT ?_ ?_;assumption)|(refine wF ?_ ?_;assumption)|(refine Wy.h ?_ ?_;kernel_rfl)|refine Wq.h ?_ ?_<;>intro h<;>try (exfalso;omega)|refine Wu.h ?_ ?_<;>intro h<;>try simp only [h]|((fail_if_success refine Wz.h ?_);first|simp (disch:=omega) only [↓LD,LA,a0A,seval]|(refine And.intro ?_ ?_;omega)|simp only [D.int,D.bool]))
 refine HS.seq ?_
 repeat' (with_reducible first|refine Wa.h ?_|refine Wr.h ?_|refine Wb.h fun K hK=>?_|(refine hK _ ?_;clear hK K)|(refine wT ?_ ?_;assumption)|(refine wF ?_ ?_;assumption)|(refine Wy.h ?_ ?_;kernel_rfl)|refine Wq.h ?_ ?_<;>intro h<;>try (exfalso;omega)|refine Wu.h ?_ ?_<;>intro h<;>try simp only [h]|((fail_if_success refine Wz.h ?_);first|simp (disch:=omega) only [↓LD,LA,a0A,seval]|(refine And.intro ?_ ?_;omega)|simp only [D.int,D.bool]))
 refine HS.view (View.slot 3 (.f (fEv [])) .ns) ?_
 repeat' (with_reducible first|refine Wx.h ?_|refine Wb.h fun K hK=>?_|(refine hK _ ?_;clear hK K)|(refine wT ?_ ?_;assumption)|(refine wF ?_ ?_;assumption)|(refine Wy.h ?_ ?_;kernel_rfl)|refine Wq.h ?_ ?_<;>intro h<;>try (exfalso;omega)|refine Wu.h ?_ ?_<;>intro h<;>try simp only [h]|((fail_if_success refine Wz.h ?_);first|simp (disch:=omega) only [↓LD,LA,a0A,seval,LBr]|(refine And.intro ?_ ?_;omega)|simp only [D.int,D.bool]))
 refine HS.loopG [1,3,4] (fun x:Nat × List Ev=>⟨frm 82 [(1,.pt 0 0),(3,.f (fEv x.2)),(4,D.int x.1)],[.box 50 [.f (fBr t)]],[]⟩) (fun x=>x.1≤t.length∧x.2.length≤200*x.1∧refA t=(t.drop x.1).foldl (fun o b=>b.foldl addT o) x.2) (fun x=>t.length-x.1) (0,[]) (by kernel_rfl) ⟨Nat.zero_le _,by simp,rfl⟩ ?_
 rintro ⟨i,o⟩ ⟨hi,ho,hF⟩
 dsimp only at hi ho hF
 by_cases hil:i<t.length
 rotate_left
 ·rw [List.drop_of_length_le (by omega)] at hF
  repeat' (with_reducible first|refine Wx.h ?_|refine Wb.h fun K hK=>?_|(refine hK _ ?_;clear hK K)|(refine wT ?_ ?_;assumption)|(refine wF ?_ ?_;assumption)|(refine Wy.h ?_ ?_;kernel_rfl)|refine Wq.h ?_ ?_<;>intro h<;>try (exfalso;omega)|refine Wu.h ?_ ?_<;>intro h<;>try simp only [h]|((fail_if_success refine Wz.h ?_);first|simp (disch:=omega) only [↓LD,LA,a0A,seval,LBr]|(refine And.intro ?_ ?_;omega)|simp only [D.int,D.bool]))
  exact end1 rfl rfl (by kernel_rfl) .f ⟨by rw [hF];rfl,rfl⟩
 obtain ⟨ok,ne⟩:=ht.gt hil
 have hll:=ok.len
 have hfl:=ok.fitL
 rw [a0G hil,List.foldl_cons] at hF
 repeat' (with_reducible first|refine Wx.h ?_|refine Wb.h fun K hK=>?_|(refine hK _ ?_;clear hK K)|(refine wT ?_ ?_;assumption)|(refine wF ?_ ?_;assumption)|(refine Wy.h ?_ ?_;kernel_rfl)|refine Wq.h ?_ ?_<;>intro h<;>try (exfalso;omega)|refine Wu.h ?_ ?_<;>intro h<;>try simp only [h]|((fail_if_success refine Wz.h ?_);first|simp (disch:=omega) only [↓LD,LA,a0A,seval,LBr]|(refine And.intro ?_ ?_;omega)|simp only [D.int,D.bool]))
 generalize hb:gt t i=b at *
 refine HS.loopV (fun x:Nat × List Ev=>⟨frm 82 [(1,.pt 0 0),(3,.f (fEv x.2)),(4,D.int i),(5,D.int x.1)],[.box 50 [.f (fBr t)]],[]⟩) (fun x=>x.1≤b.length∧x.2.length≤200*i+x.1∧b.foldl addT o=(b.drop x.1).foldl addT x.2) (fun x=>b.length-x.1) (0,o) (View.sweep (keep:=[1,3,4,5]) (by kernel_rfl)) ⟨Nat.zero_le _,by simpa using ho,rfl⟩ ?_
 rintro ⟨k,z⟩ ⟨hk,hz,hG⟩
 dsimp only at hk hz hG
 by_cases hkl:k<b.length
 rotate_left
 ·rw [List.drop_of_length_le (by omega)] at hG
  repeat' (with_reducible first|refine Wx.h ?_|refine Wb.h fun K hK=>?_|(refine hK _ ?_;clear hK K)|(refine wT ?_ ?_;assumption)|(refine wF ?_ ?_;assumption)|(refine Wy.h ?_ ?_;kernel_rfl)|refine Wq.h ?_ ?_<;>intro h<;>try (exfalso;omega)|refine Wu.h ?_ ?_<;>intro h<;>try simp only [h]|((fail_if_success refine Wz.h ?_);first|simp (disch:=omega) only [↓LD,LA,a0A,seval,LBr,LEv,hb]|(refine And.intro ?_ ?_;omega)|simp only [D.int,D.bool]))
  exact Next.mk (i+1,z) (by kernel_rfl) ⟨by dsimp only;omega,by dsimp only;omega,by rw [hF,hG];rfl⟩ (by dsimp only;omega)
 rw [a0G hkl,List.foldl_cons] at hG
 obtain ⟨f1,f2,f3,f4⟩:=hfl.2 _ (a0L hkl)
 have hld:=fun H:List Row=>b0k (H:=H) hkl
 generalize gt b k=e at *
 by_cases h7:e.ty=7
 rotate_left
 ·have ha:addT z e=z:=if_neg h7
  rw [ha] at hG
  repeat' (with_reducible first|refine Wx.h ?_|refine Wb.h fun K hK=>?_|(refine hK _ ?_;clear hK K)|(refine wT ?_ ?_;assumption)|(refine wF ?_ ?_;assumption)|(refine Wy.h ?_ ?_;kernel_rfl)|refine Wq.h ?_ ?_<;>intro h<;>try (exfalso;omega)|refine Wu.h ?_ ?_<;>intro h<;>try simp only [h]|((fail_if_success refine Wz.h ?_);first|simp (disch:=omega) only [↓LD,LA,a0A,seval,LBr,LEv,hb,hld,Ev.cs,List.map_cons,List.map_nil,-a0A]|(refine And.intro ?_ ?_;omega)|simp only [D.int,D.bool]))
  exact NextV.mk [1,3,4,5] (k+1,z) (by kernel_rfl) .same ⟨by dsimp only;omega,by dsimp only;omega,hG⟩ (by dsimp only;omega)
 have ha:addT z e=insS z e:=if_pos h7
 rw [ha] at hG
 repeat' (with_reducible first|refine Wx.h ?_|refine Wb.h fun K hK=>?_|(refine hK _ ?_;clear hK K)|(refine wT ?_ ?_;assumption)|(refine wF ?_ ?_;assumption)|(refine Wy.h ?_ ?_;kernel_rfl)|refine Wq.h ?_ ?_<;>intro h<;>try (exfalso;omega)|refine Wu.h ?_ ?_<;>intro h<;>try simp only [h]|((fail_if_success refine Wz.h ?_);first|simp (disch:=omega) only [↓LD,LA,a0A,seval,LBr,LEv,hb,hld,Ev.cs,List.map_cons,List.map_nil,-a0A]|(refine And.intro ?_ ?_;omega)|simp only [D.int,D.bool]))
 have hP0:posS e.name z=0+posS e.name (z.drop 0):=by simp
 refine HS.loopG [1,3,4,5,6,7] (fun q:Nat=>⟨frm 82 [(1,.pt 0 0),(3,.f (fEv z)),(4,D.int i),(5,D.int k),(6,.pt 1 0),(7,D.int q)],[.box 50 [.f (fBr t)],.box 73 [D.int e.id,D.int e.ver,D.int e.time,D.int e.ty,D.int e.node,D.int e.n,.f (.v (.string (BB e.name))),.f (fY e.data),.f (fG e.defs)]],[]⟩) (fun q=>q≤z.length∧posS e.name z=q+posS e.name (z.drop q)) (fun q=>z.length-q) 0 (by kernel_rfl) ⟨Nat.zero_le _,hP0⟩ ?_
 clear hP0
 rintro q ⟨hq,hP⟩
 by_cases hql:q<z.length
 ·have e6:=at6n hql
  rw [a0G hql,posS] at hP
  by_cases hlt:Op.bytesLess (BB (gt z q).name).toList (BB e.name).toList=true
  ·rw [if_pos hlt] at hP
   repeat' (with_reducible first|refine Wx.h ?_|refine We.h fun K hK=>?_|refine Wd.h fun K M hK hM=>?_|(refine hK _ _ _ _ ?_;clear hK K;try clear hM M)|(refine hM ?_;clear hM M;try clear hK K)|refine Wb.h fun K hK=>?_|(refine hK _ ?_;clear hK K)|(refine wT ?_ ?_;assumption)|(refine wF ?_ ?_;assumption)|(refine Wy.h ?_ ?_;kernel_rfl)|refine Wq.h ?_ ?_<;>intro h<;>try (exfalso;omega)|refine Wu.h ?_ ?_<;>intro h<;>try simp only [h]|((fail_if_success refine Wz.h ?_);first|simp (disch:=omega) only [↓LD,LA,a0A,seval,LBr,LEv,a0J,e6]|(refine And.intro ?_ ?_;omega)|simp only [D.int,D.bool]))
   exact Next.mk (q+1) (by kernel_rfl) ⟨by omega,by omega⟩ (by omega)
  ·rw [if_neg hlt,Nat.add_zero] at hP
   by_cases heq:(gt z q).name=e.name
   ·have hi2:insS z e=z:=by unfold insS;rw [hP,if_pos ⟨hql,heq⟩]
    rw [hi2] at hG
    repeat' (with_reducible first|refine Wx.h ?_|refine We.h fun K hK=>?_|refine Wd.h fun K M hK hM=>?_|(refine hK _ _ _ _ ?_;clear hK K;try clear hM M)|(refine hM ?_;clear hM M;try clear hK K)|refine Wb.h fun K hK=>?_|(refine hK _ ?_;clear hK K)|(refine wT ?_ ?_;assumption)|(refine wF ?_ ?_;assumption)|(refine Wy.h ?_ ?_;kernel_rfl)|refine Wq.h ?_ ?_<;>intro h<;>try (exfalso;omega)|refine Wu.h ?_ ?_<;>intro h<;>try simp only [h]|((fail_if_success refine Wz.h ?_);first|simp (disch:=omega) only [↓LD,LA,a0A,seval,LBr,LEv,a0J,e6]|(refine And.intro ?_ ?_;omega)|simp only [D.int,D.bool]))
    exact NextV.mk [1,3,4,5] (k+1,z) (by kernel_rfl) .same ⟨by dsimp only;omega,by dsimp only;omega,hG⟩ (by dsimp only;omega)
   ·have hins:insS z e=z.take q++e :: z.drop q:=by unfold insS;rw [hP,if_neg (fun h=>heq h.2)]
    have hs1:∀ H:List Row,subS H 9 73 (.f (fEv z)) 0 q=some (.f (fEv (z.take q))):=fun H=>d0F hq
    have hs2:∀ H:List Row,subS H 9 73 (.f (fEv z)) q z.length=some (.f (fEv (z.drop q))):=fun H=>o0m
    have hA:(z.take q).length=q:=by rw [List.length_take];omega
    have hB:(z.drop q).length=z.length-q:=List.length_drop
    rw [hins] at hG
    clear hins
    generalize z.take q=A at *
    generalize z.drop q=B at *
    have hAl:(A.flatMap Ev.cs++[iF e.id,iF e.ver,iF e.time,iF e.ty,iF e.node,iF e.n,.v (.string (BB e.name)),fY e.data,fG e.defs]).length=(A.length+1)*9:=by rw [List.length_append,a0J];simp;omega
    have q3:A.flatMap Ev.cs++Ev.cs e++B.flatMap Ev.cs=(A++e :: B).flatMap Ev.cs∧A.length+1+B.length=(A++e :: B).length:=⟨by simp,by rw [List.length_append,List.length_cons];omega⟩
    have q2:B.length=0→A.flatMap Ev.cs++Ev.cs e=(A++e :: B).flatMap Ev.cs∧A.length+1=(A++e :: B).length:=fun h=>by obtain rfl:=List.eq_nil_of_length_eq_zero h;exact ⟨by simp,by simp⟩
    have q1:A.length=0→Ev.cs e++B.flatMap Ev.cs=(A++e :: B).flatMap Ev.cs∧1+B.length=(A++e :: B).length:=fun h=>by obtain rfl:=List.eq_nil_of_length_eq_zero h;exact ⟨by simp,by simp;omega⟩
    have q0:A.length=0→B.length=0→Ev.cs e=(A++e :: B).flatMap Ev.cs∧1=(A++e :: B).length:=fun h k=>by obtain rfl:=List.eq_nil_of_length_eq_zero h;obtain rfl:=List.eq_nil_of_length_eq_zero k;exact ⟨by simp,by simp⟩
    repeat' (with_reducible first|refine Wx.h ?_|refine We.h fun K hK=>?_|refine Wd.h fun K M hK hM=>?_|(refine hK _ _ _ _ ?_;clear hK K;try clear hM M)|(refine hM ?_;clear hM M;try clear hK K)|refine Wb.h fun K hK=>?_|(refine hK _ ?_;clear hK K)|(refine wT ?_ ?_;assumption)|(refine wF ?_ ?_;assumption)|(refine Wy.h ?_ ?_;kernel_rfl)|refine Wq.h ?_ ?_<;>intro h<;>try (exfalso;omega)|refine Wu.h ?_ ?_<;>intro h<;>try simp only [h]|((fail_if_success refine Wz.h ?_);first|simp (disch:=omega) only [↓LD,LA,a0A,seval,LBr,LEv,a0J,e6,hs1,hs2,hAl,Int.toNat_natCast]|(refine And.intro ?_ ?_;omega)|simp only [D.int,D.bool]))
    all_goals first
     | exact NextV.mk [1,3,4,5] (k+1,A++e :: B) (s1:=⟨frm 82 [(1,.pt 0 0),(3,.sl 1 0 1),(4,D.int i),(5,D.int (k+1:Nat))],[.box 50 [.f (fBr t)],.data 73 (Ev.cs e)],[]⟩) (by kernel_rfl) ((View.evz 3 (l:=A++e :: B) rfl rfl (q0 (by assumption) (by assumption)).1 (q0 (by assumption) (by assumption)).2 (by decide)).trans (View.sweep (keep:=[1,3,4,5]) (by kernel_rfl))) ⟨by dsimp only;omega,by dsimp only;rw [List.length_append,List.length_cons];omega,hG⟩ (by dsimp only;omega)
     | exact NextV.mk [1,3,4,5] (k+1,A++e :: B) (s1:=⟨frm 82 [(1,.pt 0 0),(3,.sl 1 0 (1+B.length)),(4,D.int i),(5,D.int (k+1:Nat))],[.box 50 [.f (fBr t)],.data 73 (Ev.cs e++B.flatMap Ev.cs)],[]⟩) (by kernel_rfl) ((View.evz 3 (l:=A++e :: B) rfl rfl (q1 (by assumption)).1 (q1 (by assumption)).2 (by decide)).trans (View.sweep (keep:=[1,3,4,5]) (by kernel_rfl))) ⟨by dsimp only;omega,by dsimp only;rw [List.length_append,List.length_cons];omega,hG⟩ (by dsimp only;omega)
     | exact NextV.mk [1,3,4,5] (k+1,A++e :: B) (s1:=⟨frm 82 [(1,.pt 0 0),(3,.sl 1 0 (A.length+1)),(4,D.int i),(5,D.int (k+1:Nat))],[.box 50 [.f (fBr t)],.data 73 (A.flatMap Ev.cs++Ev.cs e)],[]⟩) (by kernel_rfl) ((View.evz 3 (l:=A++e :: B) rfl rfl (q2 (by assumption)).1 (q2 (by assumption)).2 (by decide)).trans (View.sweep (keep:=[1,3,4,5]) (by kernel_rfl))) ⟨by dsimp only;omega,by dsimp only;rw [List.length_append,List.length_cons];omega,hG⟩ (by dsimp only;omega)
     | exact NextV.mk [1,3,4,5] (k+1,A++e :: B) (s1:=⟨frm 82 [(1,.pt 0 0),(3,.sl 1 0 (A.length+1+B.length)),(4,D.int i),(5,D.int (k+1:Nat))],[.box 50 [.f (fBr t)],.data 73 (A.flatMap Ev.cs++Ev.cs e++B.flatMap Ev.cs)],[]⟩) (by kernel_rfl) ((View.evz 3 (l:=A++e :: B) rfl rfl q3.1 q3.2 (by decide)).trans (View.sweep (keep:=[1,3,4,5]) (by kernel_rfl))) ⟨by dsimp only;omega,by dsimp only;rw [List.length_append,List.length_cons];omega,hG⟩ (by dsimp only;omega)
 ·have hP2:posS e.name z=q:=by rw [hP,List.drop_of_length_le (by omega)];rfl
  have hins:insS z e=z.take q++e :: z.drop q:=by unfold insS;rw [hP2,if_neg (fun h=>hql h.1)]
  clear hP hP2
  have hs1:∀ H:List Row,subS H 9 73 (.f (fEv z)) 0 q=some (.f (fEv (z.take q))):=fun H=>d0F hq
  have hs2:∀ H:List Row,subS H 9 73 (.f (fEv z)) q z.length=some (.f (fEv (z.drop q))):=fun H=>o0m
  have hA:(z.take q).length=q:=by rw [List.length_take];omega
  have hB:(z.drop q).length=z.length-q:=List.length_drop
  rw [hins] at hG
  clear hins
  generalize z.take q=A at *
  generalize z.drop q=B at *
  have hAl:(A.flatMap Ev.cs++[iF e.id,iF e.ver,iF e.time,iF e.ty,iF e.node,iF e.n,.v (.string (BB e.name)),fY e.data,fG e.defs]).length=(A.length+1)*9:=by rw [List.length_append,a0J];simp;omega
  have q3:A.flatMap Ev.cs++Ev.cs e++B.flatMap Ev.cs=(A++e :: B).flatMap Ev.cs∧A.length+1+B.length=(A++e :: B).length:=⟨by simp,by rw [List.length_append,List.length_cons];omega⟩
  have q2:B.length=0→A.flatMap Ev.cs++Ev.cs e=(A++e :: B).flatMap Ev.cs∧A.length+1=(A++e :: B).length:=fun h=>by obtain rfl:=List.eq_nil_of_length_eq_zero h;exact ⟨by simp,by simp⟩
  have q1:A.length=0→Ev.cs e++B.flatMap Ev.cs=(A++e :: B).flatMap Ev.cs∧1+B.length=(A++e :: B).length:=fun h=>by obtain rfl:=List.eq_nil_of_length_eq_zero h;exact ⟨by simp,by simp;omega⟩
  have q0:A.length=0→B.length=0→Ev.cs e=(A++e :: B).flatMap Ev.cs∧1=(A++e :: B).length:=fun h k=>by obtain rfl:=List.eq_nil_of_length_eq_zero h;obtain rfl:=List.eq_nil_of_length_eq_zero k;exact ⟨by simp,by simp⟩
  repeat' (with_reducible first|refine Wx.h ?_|refine We.h fun K hK=>?_|refine Wd.h fun K M hK hM=>?_|(refine hK _ _ _ _ ?_;clear hK K;try clear hM M)|(refine hM ?_;clear hM M;try clear hK K)|refine Wb.h fun K hK=>?_|(refine hK _ ?_;clear hK K)|(refine wT ?_ ?_;assumption)|(refine wF ?_ ?_;assumption)|(refine Wy.h ?_ ?_;kernel_rfl)|refine Wq.h ?_ ?_<;>intro h<;>try (exfalso;omega)|refine Wu.h ?_ ?_<;>intro h<;>try simp only [h]|((fail_if_success refine Wz.h ?_);first|simp (disch:=omega) only [↓LD,LA,a0A,seval,LBr,LEv,a0J,ha,hs1,hs2,hAl,Int.toNat_natCast]|(refine And.intro ?_ ?_;omega)|simp only [D.int,D.bool]))
  all_goals first
   | exact NextV.mk [1,3,4,5] (k+1,A++e :: B) (s1:=⟨frm 82 [(1,.pt 0 0),(3,.sl 1 0 1),(4,D.int i),(5,D.int (k+1:Nat))],[.box 50 [.f (fBr t)],.data 73 (Ev.cs e)],[]⟩) (by kernel_rfl) ((View.evz 3 (l:=A++e :: B) rfl rfl (q0 (by assumption) (by assumption)).1 (q0 (by assumption) (by assumption)).2 (by decide)).trans (View.sweep (keep:=[1,3,4,5]) (by kernel_rfl))) ⟨by dsimp only;omega,by dsimp only;rw [List.length_append,List.length_cons];omega,hG⟩ (by dsimp only;omega)
   | exact NextV.mk [1,3,4,5] (k+1,A++e :: B) (s1:=⟨frm 82 [(1,.pt 0 0),(3,.sl 1 0 (1+B.length)),(4,D.int i),(5,D.int (k+1:Nat))],[.box 50 [.f (fBr t)],.data 73 (Ev.cs e++B.flatMap Ev.cs)],[]⟩) (by kernel_rfl) ((View.evz 3 (l:=A++e :: B) rfl rfl (q1 (by assumption)).1 (q1 (by assumption)).2 (by decide)).trans (View.sweep (keep:=[1,3,4,5]) (by kernel_rfl))) ⟨by dsimp only;omega,by dsimp only;rw [List.length_append,List.length_cons];omega,hG⟩ (by dsimp only;omega)
   | exact NextV.mk [1,3,4,5] (k+1,A++e :: B) (s1:=⟨frm 82 [(1,.pt 0 0),(3,.sl 1 0 (A.length+1)),(4,D.int i),(5,D.int (k+1:Nat))],[.box 50 [.f (fBr t)],.data 73 (A.flatMap Ev.cs++Ev.cs e)],[]⟩) (by kernel_rfl) ((View.evz 3 (l:=A++e :: B) rfl rfl (q2 (by assumption)).1 (q2 (by assumption)).2 (by decide)).trans (View.sweep (keep:=[1,3,4,5]) (by kernel_rfl))) ⟨by dsimp only;omega,by dsimp only;rw [List.length_append,List.length_cons];omega,hG⟩ (by dsimp only;omega)
   | exact NextV.mk [1,3,4,5] (k+1,A++e :: B) (s1:=⟨frm 82 [(1,.pt 0 0),(3,.sl 1 0 (A.length+1+B.length)),(4,D.int i),(5,D.int (k+1:Nat))],[.box 50 [.f (fBr t)],.data 73 (A.flatMap Ev.cs++Ev.cs e++B.flatMap Ev.cs)],[]⟩) (by kernel_rfl) ((View.evz 3 (l:=A++e :: B) rfl rfl q3.1 q3.2 (by decide)).trans (View.sweep (keep:=[1,3,4,5]) (by kernel_rfl))) ⟨by dsimp only;omega,by dsimp only;rw [List.length_append,List.length_cons];omega,hG⟩ (by dsimp only;omega)
def d0H:SCode :=
  (jq ([.a 1 (.box 48 (.t 0)),.a 2 (.mv kF)]) (jq ((ap [jL 8 3 1,.a 9 (.call (kC 19) [(.t 8)])] [.a 3 (.alloc 50 [jN]),.n (.store 1 (.t 3) (.t 9))]))
 (jq ([jo 10 0 3,jl 11 10,.a 12 (.bld [jN] [(0,1,(.t 11))]),.a 4 (.alloc 30 [jN]),.n (.store 1 (.t 4) (.t 12))]) (jq ((ap [jL 13 1 4,.a 14 (.call
 (kC 32) [(.t 13)])] [jm 5 14])) (jq ((ap [jL 15 1 3,.a 16 (.call (kC 33) [(.t 15)])] [jm 6 16])) (.seq (jq ([jm 17 5,je 18 17,jm 19 6,je 20 19,jB
 21 .neq 18 20]) (jc 21 (jq ([.a 2 (.mv kF)]) .ret) .skip)) (.seq (jq ([jk 7 0]) (.block 0 (.loop (.seq (jq ([jm 22 7,jm 23 5,je 24 23,jB 25 .lss 22
 24]) (jc 25 .skip (.exit 0))) (.seq (.block 1 (.seq (.drw [jm 28 5,jm 29 7,jx 30 1 28 29,jl 31 30,jm 32 6,jm 33 7,jx 34 1 32 33,jl 35 34,jB 36
 .neq 31 35] [0,0,3,7,0,0,48,112,255]) (jc 36 (jq ([.a 2 (.mv kF)]) .ret) .skip))) (.ops [jm 26 7,jb 27 .add 26 1,jm 7 27])))))) (.seq (.drw
 [.a 37 (.call (kC 29) []),jm 38 37,jG 39 (.loadA 1 (.t 4)) 38 true,jG 40 (.call (kC 31) [(.t 39)]) 38 true,jG 41 (.loadA 1 (.t 3)) 38 true,jG 42
 (.call (kC 35) [(.t 41)]) 38 true,jG 43 (.call (kC 34) [(.t 40),(.t 42)]) 38 true,.a 44 (.pick (.t 38) (.t 43) kF),jm 45 44,jG 46 (.loadA 1 (.t
 4)) 45 true,jG 47 (.call (kC 27) [(.t 46)]) 45 true,jG 48 (.loadA 1 (.t 3)) 45 true,jG 49 (.call (kC 36) [(.t 48)]) 45 true,jG 50 (.call (kC 34)
 [(.t 47),(.t 49)]) 45 true,.a 51 (.pick (.t 45) (.t 50) kF),jm 2 51] [0,1,3,7,3,31,63,127,255,511,1023,511,4095,8191,16383,32767])
 .ret))))))))
theorem f0f:Fn Tryz.prog 7 52 [.t 2] d0H:=.of Tryz.func7 (by kernel_rfl)
def e0j:SCode :=
 (jq ([.a 4 (.mv kF)]) (jq ((ap [jm 5 0,jm 6 1,.a 7 (.call (kC 17) [(.t 5),(.t 6)])] [jm 4 7])) .ret))
theorem j0T:Fn Tryz.prog 34 8 [.t 4] e0j:=.of Tryz.func34 (by kernel_rfl)
theorem o0H {t:Br}(ht:TrK t):FitL (allL (sigM t)):=⟨u0J ht,fun e he=>(o0Z ht e ((r0N (n0w t).nd).mem_iff.1 he)).1⟩
theorem b1f {t:Br}(ht:TrK t):FitL (misL t):=⟨h0j ht,fun e he=>(o0H ht).2 e (List.mem_filter.1 he).1⟩
instance {t:Br}{H:List Row}{K:D→List Row→Prop}[ht:Kn (TrK t)]:Wa (a0R Tryz.prog (.fn 35 []) [.ag [.f (fBr t)]] H K) (K (.f (fEv (allL (sigM t)))) H):=⟨fun h=>a0C (e0H t ht.h) rfl rfl rfl (by rw [z0N];exact h)⟩
instance {t:Br}{H:List Row}{K:Bool→D→List Row→Prop}[ht:Kn (TrK t)]:Wa (a0e Tryz.prog (.fn 35 []) [.ag [.f (fBr t)]] H K) (K true (.f (fEv (allL (sigM t)))) H):=⟨fun h=>a0M (e0H t ht.h) rfl rfl rfl (by rw [z0N];exact h)⟩
instance {s:S12}{nm:Bs}{H:List Row}{K:Bool→D→List Row→Prop}[hs:Kn (s.sgs.length≤1000000)]:Wa (a0e Tryz.prog (.fn 30 []) [sA s,.f (.v (.string (BB nm)))] H K) (K true (.f (.v (.bool (c0i s.sgs nm)))) H):=⟨fun h=>a0M (j0E s nm hs.h) rfl rfl rfl h⟩
set_option maxRecDepth 100000 in
theorem h0D (t:Br)(ht:TrK t):Con Tryz.prog 36 [.ag [.f (fBr t)]] [] fun r H'=>r = .f (fEv (misL t))∧H'=[]:=by
 haveI:Kn (TrK t):=⟨ht⟩
 haveI:Kn (FitL (curL t)):=⟨ht.cur.fitL⟩
 have hAl:=o0H ht
 have hsg:=ht.cur.ok.wk.fit.fit.sgs
 refine Con.walk good n0Y (by simp) ?_
 unfold g0f misL
 simp only [a0K]
 repeat' (with_reducible first|refine Wx.h ?_|refine Wb.h fun K hK=>?_|(refine hK _ ?_;clear hK K)|(refine wT ?_ ?_;assumption)|(refine wF ?_ ?_;assumption)|(refine Wy.h ?_ ?_;kernel_rfl)|refine Wq.h ?_ ?_<;>intro h<;>try (exfalso;omega)|refine Wu.h ?_ ?_<;>intro h<;>try simp only [h]|((fail_if_success refine Wz.h ?_);first|simp (disch:=omega) only [↓LD,LA,a0A,seval,LBr,stF]|(refine And.intro ?_ ?_;omega)|simp only [D.int,D.bool]))
 generalize allL (sigM t)=A at *
 generalize (a0N s0 (curL t)).2=s at *
 haveI:Kn (s.sgs.length≤1000000):=⟨hsg⟩
 refine HS.view (View.void 73) ?_
 refine HS.view (View.slot 5 (.sl 2 0 0) (.no (by show 2<3;omega))) ?_
 refine HS.loopG [3,5,6,7] (fun i:Nat=>⟨frm 38 [(3,.pt 0 0),(5,.sl 1 0 ((A.take i).filter fun e=>!hadB s e).length),(6,.f (fEv A)),(7,D.int i)],[stF s,.data 73 (((A.take i).filter fun e=>!hadB s e).flatMap Ev.cs)],[]⟩) (fun i=>i≤A.length) (fun i=>A.length-i) 0 (by kernel_rfl) (Nat.zero_le _) ?_
 rintro i hi
 by_cases hil:i<A.length
 ·have hol:((A.take i).filter fun e=>!hadB s e).length≤i:=by
   have:=List.length_filter_le (fun e=>!hadB s e) (A.take i)
   rw [List.length_take] at this;omega
  have hAl1:=hAl.1
  have ht1:A.take (i+1)=A.take i++[gt A i]:=by rw [List.take_succ_eq_append_getElem hil,b0R hil]
  have e6:=at6n hil
  have hld:=fun H:List Row=>b0k (H:=H) hil
  generalize hg:gt A i=e at *
  by_cases hp:c0i s.sgs e.name=true
  ·have hf:((A.take (i+1)).filter fun e=>!hadB s e)=(A.take i).filter fun e=>!hadB s e:=by
    rw [ht1,List.filter_append,List.filter_cons,if_neg (by unfold hadB;rw [hp];simp),List.filter_nil,List.append_nil]
   generalize ((A.take i).filter fun e=>!hadB s e)=o at *
   repeat' (with_reducible first|refine Wx.h ?_|refine We.h fun K hK=>?_|refine Wd.h fun K M hK hM=>?_|(refine hK _ _ _ _ ?_;clear hK K;try clear hM M)|(refine hM ?_;clear hM M;try clear hK K)|refine Wb.h fun K hK=>?_|(refine hK _ ?_;clear hK K)|(refine wT ?_ ?_;assumption)|(refine wF ?_ ?_;assumption)|(refine Wy.h ?_ ?_;kernel_rfl)|refine Wq.h ?_ ?_<;>intro h<;>try (exfalso;omega)|refine Wu.h ?_ ?_<;>intro h<;>try simp only [h]|((fail_if_success refine Wz.h ?_);first|simp (disch:=omega) only [↓LD,LA,a0A,seval,LEv,stF,a0J,hg,e6,hp,Bool.not_true]|(refine And.intro ?_ ?_;omega)|simp only [D.int,D.bool]))
   exact Next.mk (i+1) (by rw [hf];kernel_rfl) (by omega) (by omega)
  ·have hp:c0i s.sgs e.name=false:=by simpa using hp
   have hf:((A.take (i+1)).filter fun e=>!hadB s e)=((A.take i).filter fun e=>!hadB s e)++[e]:=by
    rw [ht1,List.filter_append,List.filter_cons,if_pos (by unfold hadB;rw [hp];rfl),List.filter_nil]
   generalize ((A.take i).filter fun e=>!hadB s e)=o at *
   have ha:o.flatMap Ev.cs++[iF e.id,iF e.ver,iF e.time,iF e.ty,iF e.node,iF e.n,.v (.string (BB e.name)),fY e.data,fG e.defs]=(o++[e]).flatMap Ev.cs:=by rw [List.flatMap_append];simp [Ev.cs]
   have hl2:(o++[e]).length=o.length+1:=by simp
   repeat' (with_reducible first|refine Wx.h ?_|refine We.h fun K hK=>?_|refine Wd.h fun K M hK hM=>?_|(refine hK _ _ _ _ ?_;clear hK K;try clear hM M)|(refine hM ?_;clear hM M;try clear hK K)|refine Wb.h fun K hK=>?_|(refine hK _ ?_;clear hK K)|(refine wT ?_ ?_;assumption)|(refine wF ?_ ?_;assumption)|(refine Wy.h ?_ ?_;kernel_rfl)|refine Wq.h ?_ ?_<;>intro h<;>try (exfalso;omega)|refine Wu.h ?_ ?_<;>intro h<;>try simp only [h]|((fail_if_success refine Wz.h ?_);first|simp (disch:=omega) only [↓LD,LA,a0A,seval,LEv,stF,a0J,hg,e6,hp,hld,Ev.cs,ha,Bool.not_false,List.map_cons,List.map_nil,-a0A]|(refine And.intro ?_ ?_;omega)|simp only [D.int,D.bool]))
   exact Next.mk (i+1) (by rw [hf,hl2];kernel_rfl) (by omega) (by omega)
 ·rw [List.take_of_length_le (by omega)]
  repeat' (with_reducible first|refine Wx.h ?_|refine Wb.h fun K hK=>?_|(refine hK _ ?_;clear hK K)|(refine wT ?_ ?_;assumption)|(refine wF ?_ ?_;assumption)|(refine Wy.h ?_ ?_;kernel_rfl)|refine Wq.h ?_ ?_<;>intro h<;>try (exfalso;omega)|refine Wu.h ?_ ?_<;>intro h<;>try simp only [h]|((fail_if_success refine Wz.h ?_);first|simp (disch:=omega) only [↓LD,LA,a0A,seval,LEv]|(refine And.intro ?_ ?_;omega)|simp only [D.int,D.bool]))
  exact end1 rfl rfl (by kernel_rfl) (s0t rfl rfl rfl) ⟨rfl,rfl⟩
instance {t:Br}{H:List Row}{K:D→List Row→Prop}[ht:Kn (TrK t)]:Wa (a0R Tryz.prog (.fn 36 []) [.ag [.f (fBr t)]] H K) (K (.f (fEv (misL t))) H):=⟨fun h=>a0C (h0D t ht.h) rfl rfl rfl h⟩
instance {t:Br}{H:List Row}{K:Bool→D→List Row→Prop}[ht:Kn (TrK t)]:Wa (a0e Tryz.prog (.fn 36 []) [.ag [.f (fBr t)]] H K) (K true (.f (fEv (misL t))) H):=⟨fun h=>a0M (h0D t ht.h) rfl rfl rfl h⟩
set_option maxRecDepth 100000 in
theorem r0P (t:Br)(ht:TrK t):Con Tryz.prog 33 [.ag [.f (fBr t)]] [] fun r H'=>r = .f (fNm (o0N t))∧H'=[]:=by
 haveI:Kn (TrK t):=⟨ht⟩
 haveI:Kn (FitL (curL t)):=⟨ht.cur.fitL⟩
 have hml:=h0j ht
 refine Con.walk good n0n (by simp) ?_
 unfold h0G o0N
 simp only [a0K]
 by_cases hz:(a0N s0 (curL t)).2.closed=0
 ·rw [if_pos hz]
  repeat' (with_reducible first|refine Wx.h ?_|refine Wb.h fun K hK=>?_|(refine hK _ ?_;clear hK K)|(refine wT ?_ ?_;assumption)|(refine wF ?_ ?_;assumption)|(refine Wy.h ?_ ?_;kernel_rfl)|refine Wq.h ?_ ?_<;>intro h<;>try (exfalso;omega)|refine Wu.h ?_ ?_<;>intro h<;>try simp only [h]|((fail_if_success refine Wz.h ?_);first|simp (disch:=omega) only [↓LD,LA,a0A,seval,LBr,stF]|(refine And.intro ?_ ?_;omega)|simp only [D.int,D.bool]))
  exact end1 rfl rfl (by kernel_rfl) .nil ⟨rfl,rfl⟩
 rw [if_neg hz]
 generalize hm:misL t=m at *
 repeat' (with_reducible first|refine Wx.h ?_|refine Wb.h fun K hK=>?_|(refine hK _ ?_;clear hK K)|(refine wT ?_ ?_;assumption)|(refine wF ?_ ?_;assumption)|(refine Wy.h ?_ ?_;kernel_rfl)|refine Wq.h ?_ ?_<;>intro h<;>try (exfalso;omega)|refine Wu.h ?_ ?_<;>intro h<;>try simp only [h]|((fail_if_success refine Wz.h ?_);first|simp (disch:=omega) only [↓LD,LA,a0A,seval,LBr,LEv,stF,hm]|(refine And.intro ?_ ?_;omega)|simp only [D.int,D.bool]))
 refine HS.view (View.void 9) ?_
 refine HS.view (View.slot 5 (.sl 2 0 0) (.no (by show 2<3;omega))) ?_
 refine HS.loopG [5,6,7] (fun i:Nat=>⟨frm 34 [(5,.sl 0 0 i),(6,.f (fEv m)),(7,D.int i)],[.data 9 (((m.take i).map (·.name)).map fun k=>F.v (.string (BB k)))],[]⟩) (fun i=>i≤m.length) (fun i=>m.length-i) 0 (by kernel_rfl) (Nat.zero_le _) ?_
 rintro i hi
 by_cases hil:i<m.length
 ·have hlen:(((m.take i).map (·.name)).map fun k=>F.v (.string (BB k))).length=i:=by simp;omega
  have ha:(((m.take i).map (·.name)).map fun k=>F.v (.string (BB k)))++[F.v (.string (BB (gt m i).name))]=(((m.take (i+1)).map (·.name)).map fun k=>F.v (.string (BB k))):=by
   rw [List.take_succ_eq_append_getElem hil,List.map_append,List.map_append,←b0R hil];rfl
  have e6:=at6n hil
  repeat' (with_reducible first|refine Wx.h ?_|refine Wb.h fun K hK=>?_|(refine hK _ ?_;clear hK K)|(refine wT ?_ ?_;assumption)|(refine wF ?_ ?_;assumption)|(refine Wy.h ?_ ?_;kernel_rfl)|refine Wq.h ?_ ?_<;>intro h<;>try (exfalso;omega)|refine Wu.h ?_ ?_<;>intro h<;>try simp only [h]|((fail_if_success refine Wz.h ?_);first|simp (disch:=omega) only [↓LD,LA,a0A,seval,LEv,a0J,e6,hlen,ha]|(refine And.intro ?_ ?_;omega)|simp only [D.int,D.bool]))
  exact Next.mk (i+1) (by kernel_rfl) (by omega) (by omega)
 ·rw [List.take_of_length_le (by omega)]
  obtain rfl:i=m.length:=by omega
  repeat' (with_reducible first|refine Wx.h ?_|refine Wb.h fun K hK=>?_|(refine hK _ ?_;clear hK K)|(refine wT ?_ ?_;assumption)|(refine wF ?_ ?_;assumption)|(refine Wy.h ?_ ?_;kernel_rfl)|refine Wq.h ?_ ?_<;>intro h<;>try (exfalso;omega)|refine Wu.h ?_ ?_<;>intro h<;>try simp only [h]|((fail_if_success refine Wz.h ?_);first|simp (disch:=omega) only [↓LD,LA,a0A,seval,LEv]|(refine And.intro ?_ ?_;omega)|simp only [D.int,D.bool]))
  exact end1 rfl rfl (by kernel_rfl) (f1j rfl rfl (by simp)) ⟨rfl,rfl⟩
theorem k0t (a b:List Ev)(ha:FitL a)(hb:FitL b):Con Tryz.prog 34 [.f (fEv a),.f (fEv b)] [] fun r H'=>r=D.bool (eqB a b)∧H'=[]:=by
 haveI:Kn (FitL a):=⟨ha⟩
 haveI:Kn (FitL b):=⟨hb⟩
 refine Con.walk good j0T (by simp) ?_
 unfold e0j
 simp only [a0K]
 repeat' (with_reducible first|refine Wx.h ?_|refine Wb.h fun K hK=>?_|(refine hK _ ?_;clear hK K)|(refine wT ?_ ?_;assumption)|(refine wF ?_ ?_;assumption)|(refine Wy.h ?_ ?_;kernel_rfl)|refine Wq.h ?_ ?_<;>intro h<;>try (exfalso;omega)|refine Wu.h ?_ ?_<;>intro h<;>try simp only [h]|((fail_if_success refine Wz.h ?_);first|simp (disch:=omega) only [↓LD,LA,a0A,seval]|(refine And.intro ?_ ?_;omega)|simp only [D.int,D.bool]))
 exact end1 rfl rfl (by kernel_rfl) .f ⟨rfl,rfl⟩
instance {t:Br}{H:List Row}{K:D→List Row→Prop}[ht:Kn (TrK t)]:Wa (a0R Tryz.prog (.fn 33 []) [.ag [.f (fBr t)]] H K) (K (.f (fNm (o0N t))) H):=⟨fun h=>a0C (r0P t ht.h) rfl rfl rfl h⟩
instance {a b:List Ev}{H:List Row}{K:Bool→D→List Row→Prop}[ha:Kn (FitL a)][hb:Kn (FitL b)]:Wa (a0e Tryz.prog (.fn 34 []) [.f (fEv a),.f (fEv b)] H K) (K true (.f (.v (.bool (eqB a b)))) H):=⟨fun h=>a0M (k0t a b ha.h hb.h) rfl rfl rfl h⟩
set_option maxRecDepth 100000 in
theorem c_law_SignalsTell (s:List (List Rw))(a:List Int)(d:List Rd):Con Tryz.prog 7 [lnD s a d] [] fun r H'=>r = .f (.v (.bool true))∧H'=[]:=by
 have ht:=c1S s a d
 refine Con.walk good f0f (by simp) ?_
 unfold d0H lnD
 simp only [a0K]
 have hXl:=z0l ht
 haveI:Kn (TrK (e0x s a d)):=⟨ht⟩
 haveI:Kn (FitL (allL (sigM (e0x s a d)))):=⟨o0H ht⟩
 haveI:Kn (FitL (misL (e0x s a d))):=⟨b1f ht⟩
 generalize hX:o0N (e0x s a d)=X at *
 repeat' (with_reducible first|refine Wx.h ?_|refine Wb.h fun K hK=>?_|(refine hK _ ?_;clear hK K)|(refine wT ?_ ?_;assumption)|(refine wF ?_ ?_;assumption)|(refine Wy.h ?_ ?_;kernel_rfl)|refine Wq.h ?_ ?_<;>intro h<;>try (exfalso;omega)|refine Wu.h ?_ ?_<;>intro h<;>try simp only [h]|((fail_if_success refine Wz.h ?_);first|simp (disch:=omega) only [↓LD,LA,a0A,seval,LBr,LSs,LNm,hX]|(refine And.intro ?_ ?_;omega)|simp only [D.int,D.bool]))
 refine HS.loopG [3,4,5,6,7] (fun i:Nat=>⟨frm 52 [(3,.pt 0 0),(4,.pt 1 0),(5,.f (fNm X)),(6,.f (fNm X)),(7,D.int i)],[.box 50 [.f (fBr (e0x s a d))],.box 30 [.f (fBr (e0x s a d))]],[]⟩) (fun i=>i≤X.length) (fun i=>X.length-i) 0 (by kernel_rfl) (Nat.zero_le _) ?_
 rintro i hi
 by_cases hil:i<X.length
 ·have e2:=f1T hil
  repeat' (with_reducible first|refine Wx.h ?_|refine We.h fun K hK=>?_|refine Wd.h fun K M hK hM=>?_|(refine hK _ _ _ _ ?_;clear hK K;try clear hM M)|(refine hM ?_;clear hM M;try clear hK K)|refine Wb.h fun K hK=>?_|(refine hK _ ?_;clear hK K)|(refine wT ?_ ?_;assumption)|(refine wF ?_ ?_;assumption)|(refine Wy.h ?_ ?_;kernel_rfl)|refine Wq.h ?_ ?_<;>intro h<;>try (exfalso;omega)|refine Wu.h ?_ ?_<;>intro h<;>try simp only [h]|((fail_if_success refine Wz.h ?_);first|simp (disch:=omega) only [↓LD,LA,a0A,seval,LNm,List.length_map,e2]|(refine And.intro ?_ ?_;omega)|simp only [D.int,D.bool]))
  exact Next.mk (i+1) (by kernel_rfl) (by omega) (by omega)
 ·have h1:eqB (allL (sigM (e0x s a d))) (allL (sigM (e0x s a d)))=true:=f0D
  have h2:eqB (misL (e0x s a d)) (misL (e0x s a d))=true:=f0D
  repeat' (with_reducible first|refine Wx.h ?_|refine We.h fun K hK=>?_|refine Wd.h fun K M hK hM=>?_|(refine hK _ _ _ _ ?_;clear hK K;try clear hM M)|(refine hM ?_;clear hM M;try clear hK K)|refine Wb.h fun K hK=>?_|(refine hK _ ?_;clear hK K)|(refine wT ?_ ?_;assumption)|(refine wF ?_ ?_;assumption)|(refine Wy.h ?_ ?_;kernel_rfl)|refine Wq.h ?_ ?_<;>intro h<;>try (exfalso;omega)|refine Wu.h ?_ ?_<;>intro h<;>try simp only [h]|((fail_if_success refine Wz.h ?_);first|simp (disch:=omega) only [↓LD,LA,a0A,seval,LBr,LNm,h1,h2]|(refine And.intro ?_ ?_;omega)|simp only [D.int,D.bool]))
  exact end1 rfl rfl (by kernel_rfl) .f ⟨rfl,rfl⟩
end Go.Proofs.YthjgmldnegaaiaaGreatDoor.Mir
namespace Go.Proofs.YthjgmldnegaaiaaGreatDoor
open Go Go.RowKit
theorem signalsTell_walk (W:World)(hg:∀ p∈Mir.glTab,Mir.RF W (fun _=>False) p.1 p.2)(x:LnIn)(h:lnOk W x) :
  Calls Tryz.prog 7 #[.agg (lnV x).toArray] W fun e w'=>e = .returned (.bool true)∧Below W.heap.size W w' :=
 Mir.Con.calls (Mir.c_law_SignalsTell (lnS x) (lnA x) (lnR x)) hg fun _ hA=>.one (r_ln hA h) .none
end Go.Proofs.YthjgmldnegaaiaaGreatDoor
namespace Go.Proofs.YthjgmldnegaaiaaGreatDoor.signalsTell
open Go
set_option maxHeartbeats 0 in
theorem closed:joinedFacts Tryz.prog 7 Tryz.f7 (OpenSpec.ofChange Rows.signalsTellSpec).bare Rows.signalsTellRow=true:=by
 unfold joinedFacts
 repeat' (with_reducible refine Bool.and_eq_true_iff.2 ⟨?_,?_⟩)
 all_goals as_aux_lemma=>kernel_rfl
end Go.Proofs.YthjgmldnegaaiaaGreatDoor.signalsTell
