/- Lemmas for the proof. No condition. -/
import Derived.Test.YthjgmldnegaaiaaGreatDoorSn15
import Derived.Test.YthjgmldnegaaiaaGreatDoorCards
import Derived.Deep.DeepHandedRow
set_option linter.unusedVariables false
set_option linter.unusedSimpArgs false
namespace Go.Proofs.YthjgmldnegaaiaaGreatDoor.Mir
open Go Go.RowKit
set_option maxHeartbeats 4000000
set_option maxRecDepth 100000 in
theorem f0U (e:Ev)(s:S12)(hl:s.sgs.length≤1000000):Con Tryz.prog 64 [evD e,.pt 0 0] [stF s] fun r H'=>r=D.bool (c0P s.sgs e.name)∧H'=[stF s]:=by
 have hc:=v0j s e.name hl
 obtain ⟨id,ver,time,closed,cancel,defs,nodes,tms,sgs⟩:=s
 refine Con.walk good k0b (by simp) ?_
 unfold f0A evD
 simp only [a0J]
 repeat' (with_reducible first|refine Wx.h ?_|refine Wb.h fun K hK=>?_|(refine hK _ ?_;clear hK K)|(refine wT ?_ ?_;assumption)|(refine wF ?_ ?_;assumption)|(refine Wy.h ?_ ?_;kernel_rfl)|refine Wq.h ?_ ?_<;>intro h<;>try (exfalso;omega)|refine Wu.h ?_ ?_<;>intro h<;>try simp only [h]|((fail_if_success refine Wz.h ?_);first|simp (disch:=omega) only [↓LD,LA,a0A,seval,stF]|(refine And.intro ?_ ?_;omega)|simp only [D.int,D.bool]))
 refine a0C hc rfl rfl rfl ?_
 repeat' (with_reducible first|refine Wx.h ?_|refine Wb.h fun K hK=>?_|(refine hK _ ?_;clear hK K)|(refine wT ?_ ?_;assumption)|(refine wF ?_ ?_;assumption)|(refine Wy.h ?_ ?_;kernel_rfl)|refine Wq.h ?_ ?_<;>intro h<;>try (exfalso;omega)|refine Wu.h ?_ ?_<;>intro h<;>try simp only [h]|((fail_if_success refine Wz.h ?_);first|simp (disch:=omega) only [↓LD,LA,a0A,seval,stF]|(refine And.intro ?_ ?_;omega)|simp only [D.int,D.bool]))
 exact end1 rfl rfl (by kernel_rfl) .f ⟨rfl,rfl⟩
def idxE (p:Ev→Bool):Nat→List Ev→Int
 | _,[]=>-1
 | i,e :: l=>if p e=true then i else idxE p (i+1) l
set_option maxRecDepth 100000 in
theorem k0V (l:List Ev)(s:S12)(hl:l.length≤1000000)(hs:s.sgs.length≤1000000):Con Tryz.prog 100 [.sl 0 0 l.length,.fn 64 [.pt 1 0]] [rEv l,stF s] fun r H'=>r=D.int (idxE (fun e=>c0P s.sgs e.name) 0 l)∧H'=[rEv l,stF s]:=by
 refine Con.walk good d0k (by simp) ?_
 unfold c0p
 simp only [a0J]
 repeat' (with_reducible first|refine Wx.h ?_|refine Wb.h fun K hK=>?_|(refine hK _ ?_;clear hK K)|(refine wT ?_ ?_;assumption)|(refine wF ?_ ?_;assumption)|(refine Wy.h ?_ ?_;kernel_rfl)|refine Wq.h ?_ ?_<;>intro h<;>try (exfalso;omega)|refine Wu.h ?_ ?_<;>intro h<;>try simp only [h]|((fail_if_success refine Wz.h ?_);first|simp (disch:=omega) only [↓LD,LA,a0A,seval,rEv]|(refine And.intro ?_ ?_;omega)|simp only [D.int,D.bool]))
 refine HS.loopG [0,1,7,8] (fun i:Nat=>⟨frm 19 [(0,.sl 0 0 l.length),(1,.fn 64 [.pt 1 0]),(7,D.int l.length),(8,D.int i)],[rEv l,stF s],[]⟩) (fun i=>i≤l.length∧idxE (fun e=>c0P s.sgs e.name) 0 l=idxE (fun e=>c0P s.sgs e.name) i (l.drop i)) (fun i=>l.length-i) 0 (by kernel_rfl) ⟨Nat.zero_le _,rfl⟩ ?_
 rintro i ⟨hi,hF⟩
 by_cases hil:i<l.length
 ·rw [a0I hil,idxE] at hF
  generalize hg:gt l i=e at *
  repeat' (with_reducible first|refine Wx.h ?_|refine Wb.h fun K hK=>?_|(refine hK _ ?_;clear hK K)|(refine wT ?_ ?_;assumption)|(refine wF ?_ ?_;assumption)|(refine Wy.h ?_ ?_;kernel_rfl)|refine Wq.h ?_ ?_<;>intro h<;>try (exfalso;omega)|refine Wu.h ?_ ?_<;>intro h<;>try simp only [h]|((fail_if_success refine Wz.h ?_);first|simp (disch:=omega) only [↓LD,LA,a0A,seval,rEv,o0E,a0K,hg,Ev.cs,List.map_cons,List.map_nil]|(refine And.intro ?_ ?_;omega)|simp only [D.int,D.bool]))
  refine a0D (f0U e s hs) [1] (by kernel_rfl) rfl rfl ?_
  rintro _ _ ⟨rfl,rfl⟩
  simp (disch:=omega) only [↓LD,LA,a0A,seval,ren,List.getElem?_nil]
  repeat' (with_reducible first|refine Wx.h ?_|refine Wb.h fun K hK=>?_|(refine hK _ ?_;clear hK K)|(refine wT ?_ ?_;assumption)|(refine wF ?_ ?_;assumption)|(refine Wy.h ?_ ?_;kernel_rfl)|refine Wq.h ?_ ?_<;>intro h<;>try (exfalso;omega)|refine Wu.h ?_ ?_<;>intro h<;>try simp only [h]|((fail_if_success refine Wz.h ?_);first|simp (disch:=omega) only [↓LD,LA,a0A,seval,rEv]|(refine And.intro ?_ ?_;omega)|simp only [D.int,D.bool]))
  ·rw [if_pos (by assumption)] at hF
   exact end1 rfl rfl (by kernel_rfl) .f ⟨by rw [hF],rfl⟩
  ·rw [if_neg (by simp [*])] at hF
   exact Next.mk (i+1) (by kernel_rfl) ⟨by omega,hF⟩ (by omega)
 ·repeat' (with_reducible first|refine Wx.h ?_|refine Wb.h fun K hK=>?_|(refine hK _ ?_;clear hK K)|(refine wT ?_ ?_;assumption)|(refine wF ?_ ?_;assumption)|(refine Wy.h ?_ ?_;kernel_rfl)|refine Wq.h ?_ ?_<;>intro h<;>try (exfalso;omega)|refine Wu.h ?_ ?_<;>intro h<;>try simp only [h]|((fail_if_success refine Wz.h ?_);first|simp (disch:=omega) only [↓LD,LA,a0A,seval,rEv]|(refine And.intro ?_ ?_;omega)|simp only [D.int,D.bool]))
  rw [List.drop_of_length_le (by omega)] at hF
  exact end1 rfl rfl (by kernel_rfl) .f ⟨by rw [hF];rfl,rfl⟩
theorem a1c {P:Program}{H2:List Row}{e:Ev}{R:List Ev}{U:TypeId}{k:Nat}(hk:k<R.length):c0N P (.data U (R.flatMap Ev.cs) :: H2) 9 0 (k*9) (eA e) (some (.data U (R.flatMap Ev.cs)))=some (.data U ((R.set k e).flatMap Ev.cs) :: H2):=by
 have h:=p0A (P:=P) (H:=.data U (R.flatMap Ev.cs) :: H2) (n:=9) (r:=0) (off:=k*9) (ys:=Ev.cs e) (U:=U) (xs:=R.flatMap Ev.cs) rfl (by omega)
 rw [if_pos (by rw [a0K];omega)] at h
 refine h.trans ?_
 show some ((Row.data U (R.flatMap Ev.cs) :: H2).set 0 (.data U (splice (R.flatMap Ev.cs) (k*9) (Ev.cs e))))=_
 rw [e0r Ev.cs_len hk];rfl
theorem q0R {p:Ev→Bool}:∀ {l:List Ev} {i:Nat},(idxE p i l = -1∧l.filter (fun e=>!p e)=l)∨∃ k:Nat,idxE p i l=(i+k:Nat)∧k<l.length∧(l.take (k+1)).filter (fun e=>!p e)=l.take k
 | [],i=>.inl ⟨rfl,rfl⟩
 | e :: l,i=>by
  rw [idxE]
  by_cases h:p e=true
  ·rw [if_pos h]
   exact .inr ⟨0,by simp,by simp,by simp [h]⟩
  ·rw [if_neg h]
   rcases q0R (p:=p) (l:=l) (i:=i+1) with ⟨h1,h2⟩|⟨k,h1,h2,h3⟩
   ·exact .inl ⟨h1,by rw [List.filter_cons,if_pos (by simp [h]),h2]⟩
   ·exact .inr ⟨k+1,by rw [h1];congr 1;omega,by simp;omega,by rw [List.take_succ_cons,List.filter_cons,if_pos (by simp [h]),h3,List.take_succ_cons]⟩
theorem x0w {R:List Ev}{c:Nat}{e:Ev}(hc:c<R.length):(R.set c e).take (c+1)=R.take c++[e]:=by
 have h1:(R.take c).length=c:=by rw [List.length_take];omega
 rw [List.set_eq_take_append_cons_drop,if_pos hc,List.take_append,h1,List.take_of_length_le (by omega),show c+1-c=1 by omega]
 rfl
theorem z0l {H2:List Row}{xs:List F}{off m:Nat}(hm:m≠0)(hl:off+m*9≤xs.length):∃ zs,g0u Tryz.prog (.data 73 xs :: H2) 25 (.sl 0 off m)=some (.data 73 (xs.take off++zs) :: H2):=by
 have hu:Tryz.prog.underlying 25=some (.slice 73):=by kernel_rfl
 have hi:inf Tryz.prog 73=some (9,112,[.int .i64 0,.int .i64 0,.int .i64 0,.int .i64 0,.int .i64 0,.int .i64 0,.string ⟨#[]⟩,.slice none 0 0,.slice none 0 0]):=k0t
 have h:∃ vals,g0u Tryz.prog (.data 73 xs :: H2) 25 (.sl 0 off m)=some (.data 73 (splice xs off vals) :: H2):=by
  unfold g0u g0z
  rw [hu]
  dsimp only
  rw [if_neg hm,List.getElem?_cons_zero,hi]
  dsimp only
  rw [if_pos ⟨hl,by omega⟩]
  exact ⟨_,congrArg some (List.append_nil _)⟩
 obtain ⟨vals,h⟩:=h
 refine ⟨vals++xs.drop (off+vals.length),?_⟩
 rw [h,splice,List.append_assoc]
theorem e1U {l:List Ev}{k:Nat}:(l.flatMap Ev.cs).take (k*9)=(l.take k).flatMap Ev.cs:=by
 induction l generalizing k with
 | nil=>simp
 | cons e l ih =>
  cases k with
  | zero=>simp
  | succ k=>rw [List.take_succ_cons,List.flatMap_cons,List.flatMap_cons,List.take_append,List.take_of_length_le (by rw [Ev.cs_len];omega),Ev.cs_len,show (k+1)*9-9=k*9 by omega,ih]
def hadB (s:S12)(e:Ev):Bool:=c0P s.sgs e.name
set_option maxRecDepth 100000 in
theorem h0o (l:List Ev)(s:S12)(h0:l.length≠0)(hl:l.length≤1000000)(hs:s.sgs.length≤1000000):Con Tryz.prog 63 [.sl 0 0 l.length,.fn 64 [.pt 1 0]] [rEv l,stF s] fun r H'=>∃ xs,r=(if (l.filter fun e=>!hadB s e).length=0 then .f (.s [] 0) else .sl 0 0 (l.filter fun e=>!hadB s e).length)∧H'=[.data 73 ((l.filter fun e=>!hadB s e).flatMap Ev.cs++xs),stF s]:=by
 have hi0:=q0R (p:=hadB s) (l:=l) (i:=0)
 have hc:=k0V l s hl hs
 change Con _ _ _ _ fun r H'=>r=D.int (idxE (hadB s) 0 l)∧H'=[rEv l,stF s] at hc
 generalize idxE (hadB s) 0 l=i0 at *
 refine Con.walk good d0c (by simp) ?_
 unfold c0b
 simp only [a0J]
 rcases hi0 with ⟨rfl,hf⟩|⟨k,hk,hkl,hkf⟩
 ·rw [hf]
  repeat' (with_reducible first|refine Wx.h ?_|refine Wb.h fun K hK=>?_|(refine hK _ ?_;clear hK K)|(refine wT ?_ ?_;assumption)|(refine wF ?_ ?_;assumption)|(refine Wy.h ?_ ?_;kernel_rfl)|refine Wq.h ?_ ?_<;>intro h<;>try (exfalso;omega)|refine Wu.h ?_ ?_<;>intro h<;>try simp only [h]|((fail_if_success refine Wz.h ?_);first|simp (disch:=omega) only [↓LD,LA,a0A,seval]|(refine And.intro ?_ ?_;omega)|simp only [D.int,D.bool]))
  refine a0D hc [0,1] (by kernel_rfl) rfl rfl ?_
  rintro _ _ ⟨rfl,rfl⟩
  simp (disch:=omega) only [↓LD,LA,a0A,seval,ren,List.getElem?_nil,rEv,stF]
  repeat' (with_reducible first|refine Wx.h ?_|refine Wb.h fun K hK=>?_|(refine hK _ ?_;clear hK K)|(refine wT ?_ ?_;assumption)|(refine wF ?_ ?_;assumption)|(refine Wy.h ?_ ?_;kernel_rfl)|refine Wq.h ?_ ?_<;>intro h<;>try (exfalso;omega)|refine Wu.h ?_ ?_<;>intro h<;>try simp only [h]|((fail_if_success refine Wz.h ?_);first|simp (disch:=omega) only [↓LD,LA,a0A,seval]|(refine And.intro ?_ ?_;omega)|simp only [D.int,D.bool]))
  exact endA rfl rfl ⟨[],by rw [if_neg h0];rfl,by rw [List.append_nil];rfl⟩
 ·rw [Nat.zero_add] at hk
  subst hk
  repeat' (with_reducible first|refine Wx.h ?_|refine Wb.h fun K hK=>?_|(refine hK _ ?_;clear hK K)|(refine wT ?_ ?_;assumption)|(refine wF ?_ ?_;assumption)|(refine Wy.h ?_ ?_;kernel_rfl)|refine Wq.h ?_ ?_<;>intro h<;>try (exfalso;omega)|refine Wu.h ?_ ?_<;>intro h<;>try simp only [h]|((fail_if_success refine Wz.h ?_);first|simp (disch:=omega) only [↓LD,LA,a0A,seval]|(refine And.intro ?_ ?_;omega)|simp only [D.int,D.bool]))
  refine a0D hc [0,1] (by kernel_rfl) rfl rfl ?_
  rintro _ _ ⟨rfl,rfl⟩
  simp (disch:=omega) only [↓LD,LA,a0A,seval,ren,List.getElem?_nil,rEv,stF]
  repeat' (with_reducible first|refine Wx.h ?_|refine Wb.h fun K hK=>?_|(refine hK _ ?_;clear hK K)|(refine wT ?_ ?_;assumption)|(refine wF ?_ ?_;assumption)|(refine Wy.h ?_ ?_;kernel_rfl)|refine Wq.h ?_ ?_<;>intro h<;>try (exfalso;omega)|refine Wu.h ?_ ?_<;>intro h<;>try simp only [h]|((fail_if_success refine Wz.h ?_);first|simp (disch:=omega) only [↓LD,LA,a0A,seval,rEv]|(refine And.intro ?_ ?_;omega)|simp only [D.int,D.bool]))
  refine HS.loopG [0,1,5,6] (fun x:Nat × Nat × List Ev=>⟨frm 42 [(0,.sl 0 0 l.length),(1,.fn 64 [.pt 1 0]),(5,D.int x.1),(6,D.int x.2.1)],[rEv x.2.2,stF s],[]⟩) (fun x=>x.1<x.2.1∧x.2.1≤l.length∧x.2.2.length=l.length∧x.2.2.take x.1=(l.take x.2.1).filter (fun e=>!hadB s e)∧x.2.2.drop x.2.1=l.drop x.2.1) (fun x=>l.length-x.2.1) (k,k+1,l) (by kernel_rfl) ⟨by dsimp only;omega,by dsimp only;omega,rfl,hkf.symm,rfl⟩ ?_
  clear hkf hkl
  rintro ⟨c,j,R⟩ ⟨hcj,hj,hR,hT,hD⟩
  dsimp only at hcj hj hR hT hD
  by_cases hjl:j<l.length
  ·have hg:gt R j=gt l j:=by
    have h1:(R.drop j)[0]?=(l.drop j)[0]?:=by rw [hD]
    rw [List.getElem?_drop,List.getElem?_drop,Nat.add_zero,List.getElem?_eq_getElem (by omega),List.getElem?_eq_getElem (by omega)] at h1
    rw [b0f (by omega),b0f (by omega)]
    exact Option.some.inj h1
   generalize he:gt l j=e at *
   have hst:=fun (P:Program) (H2:List Row) (U:TypeId)=>a1c (P:=P) (H2:=H2) (e:=e) (R:=R) (U:=U) (k:=c) (by omega)
   repeat' (with_reducible first|refine Wx.h ?_|refine Wb.h fun K hK=>?_|(refine hK _ ?_;clear hK K)|(refine wT ?_ ?_;assumption)|(refine wF ?_ ?_;assumption)|(refine Wy.h ?_ ?_;kernel_rfl)|refine Wq.h ?_ ?_<;>intro h<;>try (exfalso;omega)|refine Wu.h ?_ ?_<;>intro h<;>try simp only [h]|((fail_if_success refine Wz.h ?_);first|simp (disch:=omega) only [↓LD,LA,a0A,seval,rEv,o0E,a0K,hR,hg,Ev.cs,List.map_cons,List.map_nil]|(refine And.intro ?_ ?_;omega)|simp only [D.int,D.bool]))
   refine a0D (f0U e s hs) [1] (by kernel_rfl) rfl rfl ?_
   rintro _ _ ⟨rfl,rfl⟩
   have htk:l.take (j+1)=l.take j++[e]:=by rw [List.take_succ_eq_append_getElem hjl,←b0f hjl,he]
   have hD2:R.drop (j+1)=l.drop (j+1):=by rw [←List.drop_drop,←List.drop_drop,hD]
   simp (disch:=omega) only [↓LD,LA,a0A,seval,ren,List.getElem?_nil,rEv,stF]
   repeat' (with_reducible first|refine Wx.h ?_|refine Wb.h fun K hK=>?_|(refine hK _ ?_;clear hK K)|(refine wT ?_ ?_;assumption)|(refine wF ?_ ?_;assumption)|(refine Wy.h ?_ ?_;kernel_rfl)|refine Wq.h ?_ ?_<;>intro h<;>try (exfalso;omega)|refine Wu.h ?_ ?_<;>intro h<;>try simp only [h]|((fail_if_success refine Wz.h ?_);first|simp (disch:=omega) only [↓LD,LA,a0A,seval,rEv,hst,a0K,hR]|(refine And.intro ?_ ?_;omega)|simp only [D.int,D.bool]))
   ·have hb:(!hadB s e)=true:=by assumption
    exact Next.mk (c+1,j+1,R.set c e) (by kernel_rfl) ⟨by dsimp only;omega,by dsimp only;omega,by dsimp only;rw [List.length_set];exact hR,by dsimp only;rw [x0w (by omega),hT,htk,List.filter_append,List.filter_cons,if_pos hb,List.filter_nil],by dsimp only;rw [List.drop_set_of_lt (by omega)];exact hD2⟩ (by dsimp only;omega)
   ·have hb:(!hadB s e)=false:=by assumption
    exact Next.mk (c,j+1,R) (by kernel_rfl) ⟨by dsimp only;omega,by dsimp only;omega,hR,by dsimp only;rw [hT,htk,List.filter_append,List.filter_cons,if_neg (by rw [hb];simp),List.filter_nil,List.append_nil],hD2⟩ (by dsimp only;omega)
  ·obtain rfl:j=l.length:=by omega
   rw [List.take_length] at hT
   have hcn:¬ c=l.length:=by omega
   have hpos:0<l.length*9:=by omega
   obtain ⟨zs,hz⟩:=z0l (H2:=[stF s]) (xs:=R.flatMap Ev.cs) (off:=c*9) (m:=l.length-c) (by omega) (by rw [a0K];omega)
   rw [e1U,hT] at hz
   have hcl:c=(l.filter fun e=>!hadB s e).length:=by rw [←hT,List.length_take];omega
   repeat' (with_reducible first|refine Wx.h ?_|refine Wb.h fun K hK=>?_|(refine hK _ ?_;clear hK K)|(refine wT ?_ ?_;assumption)|(refine wF ?_ ?_;assumption)|(refine Wy.h ?_ ?_;kernel_rfl)|refine Wq.h ?_ ?_<;>intro h<;>try (exfalso;omega)|refine Wu.h ?_ ?_<;>intro h<;>try simp only [h]|((fail_if_success refine Wz.h ?_);first|simp (disch:=omega) only [↓LD,LA,a0A,seval,rEv,hcn,a0K,hR,hpos,hz,↓reduceIte]|(refine And.intro ?_ ?_;omega)|simp only [D.int,D.bool]))
   by_cases hc0:0=c
   ·simp only [if_pos hc0]
    repeat' (with_reducible first|refine Wx.h ?_|refine Wb.h fun K hK=>?_|(refine hK _ ?_;clear hK K)|(refine wT ?_ ?_;assumption)|(refine wF ?_ ?_;assumption)|(refine Wy.h ?_ ?_;kernel_rfl)|refine Wq.h ?_ ?_<;>intro h<;>try (exfalso;omega)|refine Wu.h ?_ ?_<;>intro h<;>try simp only [h]|((fail_if_success refine Wz.h ?_);first|simp (disch:=omega) only [↓LD,LA,a0A,seval,rEv]|(refine And.intro ?_ ?_;omega)|simp only [D.int,D.bool]))
    exact endA rfl rfl ⟨zs,by rw [←hcl,if_pos hc0.symm];rfl,rfl⟩
   ·have hp2:0<(List.flatMap Ev.cs (l.filter fun e=>!hadB s e)++zs).length:=by rw [List.length_append,a0K,←hcl];omega
    simp only [if_neg hc0,if_pos hp2]
    repeat' (with_reducible first|refine Wx.h ?_|refine Wb.h fun K hK=>?_|(refine hK _ ?_;clear hK K)|(refine wT ?_ ?_;assumption)|(refine wF ?_ ?_;assumption)|(refine Wy.h ?_ ?_;kernel_rfl)|refine Wq.h ?_ ?_<;>intro h<;>try (exfalso;omega)|refine Wu.h ?_ ?_<;>intro h<;>try simp only [h]|((fail_if_success refine Wz.h ?_);first|simp (disch:=omega) only [↓LD,LA,a0A,seval,rEv]|(refine And.intro ?_ ?_;omega)|simp only [D.int,D.bool]))
    exact endA rfl rfl ⟨zs,by rw [←hcl,if_neg (fun e=>hc0 e.symm)];rfl,rfl⟩
structure SigOk (t:Br)(ms:List Ev):Prop where
 mem:∀ e∈ms,e.ty=7∧∃ b∈t,e∈b
 nd:(ms.map (·.name)).Nodup
theorem findE_none {ms:List Ev}{k:Bs}:(e0B ms k).isNone=true↔k ∉ ms.map (·.name):=by
 unfold e0B
 rw [Option.isNone_iff_eq_none,List.find?_eq_none]
 constructor
 ·intro h hm
  obtain ⟨e,he,rfl⟩:=List.mem_map.1 hm
  have:=h e he
  simp at this
 ·intro h e he hk
  have hk:k=e.name:=by simpa using hk
  exact h (List.mem_map.2 ⟨e,he,hk.symm⟩)
theorem SigOk.add {t:Br}{ms:List Ev}{e:Ev}{b:List Ev}(h:SigOk t ms)(hb:b∈t)(he:e∈b):SigOk t (addS ms e):=by
 unfold addS
 split
 ·rename_i hc
  refine ⟨fun x hx=>?_,?_⟩
  ·rcases List.mem_append.1 hx with hx|hx
   ·exact h.mem x hx
   ·obtain rfl:=List.mem_singleton.1 hx;exact ⟨hc.2,b,hb,he⟩
  ·rw [List.map_append,List.nodup_append]
   refine ⟨h.nd,by simp,fun a ha c hcc=>?_⟩
   rintro rfl
   obtain rfl:a=e.name:=by simpa using hcc
   exact findE_none.1 hc.1 ha
 ·exact h
theorem SigOk.addAll {t:Br}:∀ {l:List Ev} {ms:List Ev} {b:List Ev},SigOk t ms→b∈t→(∀ e∈l,e∈b)→SigOk t (l.foldl addS ms)
 | [],_,_,h,_,_=>h
 | e :: l,ms,b,h,hb,hl=>SigOk.addAll (l:=l) (h.add hb (hl e (by simp))) hb fun x hx=>hl x (by simp [hx])
theorem SigOk.all {t:Br}:∀ {l:Br} {ms:List Ev},SigOk t ms→(∀ b∈l,b∈t)→SigOk t (l.foldl (fun ms b=>b.foldl addS ms) ms)
 | [],_,h,_=>h
 | b :: l,ms,h,hl=>SigOk.all (l:=l) (h.addAll (hl b (by simp)) fun x hx=>hx) fun x hx=>hl x (by simp [hx])
theorem y0g (t:Br):SigOk t (sigM t):=SigOk.all ⟨fun e h=>by simp at h,by simp⟩ fun b hb=>hb
theorem z0T {ms:List Ev}{e:Ev}{k:Bs}(h:k∈ms.map (·.name)):k∈(addS ms e).map (·.name):=by
 unfold addS;split
 ·rw [List.map_append];exact List.mem_append_left _ h
 ·exact h
theorem e0l {k:Bs}:∀ {l:List Ev} {ms:List Ev},k∈ms.map (·.name)→k∈(l.foldl addS ms).map (·.name)
 | [],_,h=>h
 | e :: l,ms,h=>e0l (l:=l) (z0T h)
theorem u0M {k:Bs}:∀ {l:Br} {ms:List Ev},k∈ms.map (·.name)→k∈(l.foldl (fun ms b=>b.foldl addS ms) ms).map (·.name)
 | [],_,h=>h
 | b :: l,ms,h=>u0M (l:=l) (e0l h)
theorem d1Z {ms:List Ev}{e:Ev}(h:e.ty=7):e.name∈(addS ms e).map (·.name):=by
 unfold addS
 by_cases hn:(e0B ms e.name).isNone=true
 ·rw [if_pos ⟨hn,h⟩];simp
 ·rw [if_neg (fun hh=>hn hh.1)]
  exact Classical.byContradiction fun hm=>hn (findE_none.2 hm)
theorem r0C {e:Ev}(h7:e.ty=7):∀ {l:List Ev} {ms:List Ev},e∈l→e.name∈(l.foldl addS ms).map (·.name)
 | x :: l,ms,h=>by
  rcases List.mem_cons.1 h with rfl|h
  ·exact e0l (l:=l) (d1Z h7)
  ·exact r0C h7 (l:=l) h
theorem c1m {e:Ev}(h7:e.ty=7):∀ {l:Br} {ms:List Ev} {b:List Ev},b∈l→e∈b→e.name∈(l.foldl (fun ms b=>b.foldl addS ms) ms).map (·.name)
 | x :: l,ms,b,h,he=>by
  rcases List.mem_cons.1 h with rfl|h
  ·exact u0M (l:=l) (r0C h7 he)
  ·exact c1m h7 (l:=l) h he
theorem e1e {t:Br}{b:List Ev}{e:Ev}(hb:b∈t)(he:e∈b)(h7:e.ty=7):e.name∈(sigM t).map (·.name):=c1m h7 hb he
theorem w0Q (ms:List Ev):(allL ms).map (·.name)=b0k ms:=by
 have key:∀ ks:List Bs,(∀ k∈ks,k∈b0k ms)→(ks.map fun k=>(e0B ms k).getD default).map (·.name)=ks:=by
  intro ks
  induction ks with
  | nil=>intro _;rfl
  | cons k ks ih =>
   intro h
   obtain ⟨e,h1,h2,h3⟩:=y0K (h k (by simp))
   rw [List.map_cons,List.map_cons,h1,ih fun x hx=>h x (by simp [hx])]
   show e.name :: ks=k :: ks
   rw [h3]
 exact key _ fun k h=>h
theorem u0g {k:Bs}:∀ {l:List Bs},l.Nodup→k∈l→l.count k=1
 | x :: l,h,hk=>by
  rw [List.nodup_cons] at h
  rw [List.count_cons]
  by_cases hx:x=k
  ·subst hx;rw [List.count_eq_zero_of_not_mem h.1];simp
  ·have:=u0g h.2 ((List.mem_cons.1 hk).resolve_left (fun e=>hx e.symm))
   simp [hx,this]
theorem w0d {t:Br}{k:Bs}(h:k∈(sigM t).map (·.name)):((allL (sigM t)).map (·.name)).count k=1:=by
 rw [w0Q,(c0f _).count_eq,u0g (y0g t).nd h]
theorem g0y {p:Bs→Bool}{k:Bs}:∀ {l:List Ev},((l.filter fun e=>p e.name).map (·.name)).count k=if p k=true then (l.map (·.name)).count k else 0
 | []=>by simp
 | e :: l=>by
  have ih:=g0y (p:=p) (k:=k) (l:=l)
  by_cases hp:p e.name=true
  ·rw [List.filter_cons,if_pos hp,List.map_cons,List.count_cons,ih,List.map_cons,List.count_cons]
   by_cases hk:e.name=k
   ·subst hk;rw [if_pos hp,if_pos hp]
   ·have:(e.name==k)=false:=by simp [hk]
    rw [this];simp
  ·rw [List.filter_cons,if_neg hp,ih,List.map_cons,List.count_cons]
   by_cases hk:e.name=k
   ·subst hk;rw [if_neg hp,if_neg hp]
   ·have:(e.name==k)=false:=by simp [hk]
    rw [this];simp
set_option maxRecDepth 100000 in
theorem x0i (l:List Ev)(hl:l.length≤1000000)(hf:∀ e∈l,FitV e):Con Tryz.prog 24 [.f (fEv l)] [] fun r H'=>r = .tp [stD (a0M s0 l).2,D.int (a0M s0 l).1]∧H'=[]:=by
 refine Con.walk good w0T (by simp) ?_
 unfold p0O
 simp only [a0J]
 repeat' (with_reducible first|refine Wx.h ?_|refine Wb.h fun K hK=>?_|(refine hK _ ?_;clear hK K)|(refine wT ?_ ?_;assumption)|(refine wF ?_ ?_;assumption)|(refine Wy.h ?_ ?_;kernel_rfl)|refine Wq.h ?_ ?_<;>intro h<;>try (exfalso;omega)|refine Wu.h ?_ ?_<;>intro h<;>try simp only [h]|((fail_if_success refine Wz.h ?_);first|simp (disch:=omega) only [↓LD,LA,a0A,seval,LEv]|(refine And.intro ?_ ?_;omega)|simp only [D.int,D.bool]))
 refine HS.view (View.bcell 1 5 (.f (.s [] 0)) rfl rfl .ns) ?_
 refine HS.view (View.void 158) ?_
 refine HS.view (View.void 180) ?_
 refine HS.view (View.void 106) ?_
 refine HS.view (View.bcell 1 6 (.sl 2 0 0) rfl rfl (.no (by show 2<5;omega))) ?_
 refine HS.view (View.bcell 1 7 (.sl 3 0 0) rfl rfl (.no (by show 3<5;omega))) ?_
 refine HS.view (View.bcell 1 8 (.sl 4 0 0) rfl rfl (.no (by show 4<5;omega))) ?_
 refine HS.loopG [2,4,9,10,11] (fun x:Nat × S12=>⟨frm 23 [(2,.pt 0 0),(4,.pt 1 0),(9,.f (fEv l)),(10,D.int l.length),(11,D.int x.1)],[.box 65 [jI,jI,jI,jI,jF,jN,jN,jN,jN],.box 65 (stL 2 3 4 x.2),rN x.2.nodes,rT x.2.tms,rS x.2.sgs],[]⟩)
  (fun x=>x.1≤l.length∧Ok12 x.2∧a0M s0 l=a0M x.2 (l.drop x.1)) (fun x=>l.length-x.1) (0,s0) (by kernel_rfl) ⟨Nat.zero_le _,v0k,rfl⟩ ?_
 rintro ⟨i,s⟩ ⟨hi,ho,hF⟩
 dsimp only at hi ho hF
 by_cases hil:i<l.length
 ·rw [a0I hil,a0M] at hF
  have hv:=hf _ (a0L hil)
  have he:=a1s (e:=gt l i) ho
  unfold y0y at he
  obtain ⟨hA,_,_⟩:=ho.fitA
  have hid:=ho.id
  have ho2:=c0X (e:=gt l i) ho hv.2.2.2
  repeat' (with_reducible first|refine Wx.h ?_|refine Wb.h fun K hK=>?_|(refine hK _ ?_;clear hK K)|(refine wT ?_ ?_;assumption)|(refine wF ?_ ?_;assumption)|(refine Wy.h ?_ ?_;kernel_rfl)|refine Wq.h ?_ ?_<;>intro h<;>try (exfalso;omega)|refine Wu.h ?_ ?_<;>intro h<;>try simp only [h]|((fail_if_success refine Wz.h ?_);first|simp (disch:=omega) only [↓LD,LA,a0A,seval,LEv,c0T,a0K,Ev.cs,stL,rN,rT,rS,-a0A,List.map_cons,List.map_nil]|(refine And.intro ?_ ?_;omega)|simp only [D.int,D.bool]))
  refine a0D (w0j s (gt l i) hA hv.1 hv.2.2 ⟨hid.1,by omega⟩) [1,2,3,4] (by kernel_rfl) rfl rfl ?_
  rintro _ _ ⟨rfl,m,rfl⟩
  generalize c0D s (gt l i)=p at he ⊢
  obtain ⟨v,s'⟩:=p
  dsimp only at he ⊢
  rcases m with _|_|_|m
  ·simp (disch:=omega) only [↓LD,LA,a0A,seval,ren,List.getElem?_nil,stM,stH,stL,rN,rT,rS]
   repeat' (with_reducible first|refine Wx.h ?_|refine Wb.h fun K hK=>?_|(refine hK _ ?_;clear hK K)|(refine wT ?_ ?_;assumption)|(refine wF ?_ ?_;assumption)|(refine Wy.h ?_ ?_;kernel_rfl)|refine Wq.h ?_ ?_<;>intro h<;>try (exfalso;omega)|refine Wu.h ?_ ?_<;>intro h<;>try simp only [h]|((fail_if_success refine Wz.h ?_);first|simp (disch:=omega) only [↓LD,LA,a0A,seval]|(refine And.intro ?_ ?_;omega)|simp only [D.int,D.bool]))
   ·have hv0:v=0:=by assumption
    rw [if_pos hv0] at he
    rw [←he] at hF ho2
    rw [if_pos rfl] at hF
    exact Next.mk (i+1,s') (by kernel_rfl) ⟨by dsimp only;omega,ho2 rfl,hF⟩ (by dsimp only;omega)
   ·have hv0:¬ v=0:=by assumption
    rw [if_neg hv0] at he
    rw [←he,if_neg hv0] at hF
    rw [hF]
    exact RetS.still (ds:=[.ag [jI,jI,jI,jI,jF,jN,jN,jN,jN],D.int v]) (by kernel_rfl) (by kernel_rfl) (.tps (.cons (.ags (.cons .f (.cons .f (.cons .f (.cons .f (.cons .f (.cons .nil (.cons .nil (.cons .nil (.cons .nil .nil)))))))))) (.cons .f .nil))) ⟨rfl,rfl⟩
  ·simp (disch:=omega) only [↓LD,LA,a0A,seval,ren,List.getElem?_nil,stM,stH,stL,rN,rT,rS]
   repeat' (with_reducible first|refine Wx.h ?_|refine Wb.h fun K hK=>?_|(refine hK _ ?_;clear hK K)|(refine wT ?_ ?_;assumption)|(refine wF ?_ ?_;assumption)|(refine Wy.h ?_ ?_;kernel_rfl)|refine Wq.h ?_ ?_<;>intro h<;>try (exfalso;omega)|refine Wu.h ?_ ?_<;>intro h<;>try simp only [h]|((fail_if_success refine Wz.h ?_);first|simp (disch:=omega) only [↓LD,LA,a0A,seval]|(refine And.intro ?_ ?_;omega)|simp only [D.int,D.bool]))
   ·have hv0:v=0:=by assumption
    rw [if_pos hv0] at he
    rw [←he] at hF ho2
    rw [if_pos rfl] at hF
    exact Next.mk (i+1,s') (by kernel_rfl) ⟨by dsimp only;omega,ho2 rfl,hF⟩ (by dsimp only;omega)
   ·have hv0:¬ v=0:=by assumption
    rw [if_neg hv0] at he
    rw [←he,if_neg hv0] at hF
    rw [hF]
    exact RetS.still (ds:=[.ag [jI,jI,jI,jI,jF,jN,jN,jN,jN],D.int v]) (by kernel_rfl) (by kernel_rfl) (.tps (.cons (.ags (.cons .f (.cons .f (.cons .f (.cons .f (.cons .f (.cons .nil (.cons .nil (.cons .nil (.cons .nil .nil)))))))))) (.cons .f .nil))) ⟨rfl,rfl⟩
  ·simp (disch:=omega) only [↓LD,LA,a0A,seval,ren,List.getElem?_nil,stM,stH,stL,rN,rT,rS]
   repeat' (with_reducible first|refine Wx.h ?_|refine Wb.h fun K hK=>?_|(refine hK _ ?_;clear hK K)|(refine wT ?_ ?_;assumption)|(refine wF ?_ ?_;assumption)|(refine Wy.h ?_ ?_;kernel_rfl)|refine Wq.h ?_ ?_<;>intro h<;>try (exfalso;omega)|refine Wu.h ?_ ?_<;>intro h<;>try simp only [h]|((fail_if_success refine Wz.h ?_);first|simp (disch:=omega) only [↓LD,LA,a0A,seval]|(refine And.intro ?_ ?_;omega)|simp only [D.int,D.bool]))
   ·have hv0:v=0:=by assumption
    rw [if_pos hv0] at he
    rw [←he] at hF ho2
    rw [if_pos rfl] at hF
    exact Next.mk (i+1,s') (by kernel_rfl) ⟨by dsimp only;omega,ho2 rfl,hF⟩ (by dsimp only;omega)
   ·have hv0:¬ v=0:=by assumption
    rw [if_neg hv0] at he
    rw [←he,if_neg hv0] at hF
    rw [hF]
    exact RetS.still (ds:=[.ag [jI,jI,jI,jI,jF,jN,jN,jN,jN],D.int v]) (by kernel_rfl) (by kernel_rfl) (.tps (.cons (.ags (.cons .f (.cons .f (.cons .f (.cons .f (.cons .f (.cons .nil (.cons .nil (.cons .nil (.cons .nil .nil)))))))))) (.cons .f .nil))) ⟨rfl,rfl⟩
  ·simp (disch:=omega) only [↓LD,LA,a0A,seval,ren,List.getElem?_nil,stM,stH,stL,rN,rT,rS]
   repeat' (with_reducible first|refine Wx.h ?_|refine Wb.h fun K hK=>?_|(refine hK _ ?_;clear hK K)|(refine wT ?_ ?_;assumption)|(refine wF ?_ ?_;assumption)|(refine Wy.h ?_ ?_;kernel_rfl)|refine Wq.h ?_ ?_<;>intro h<;>try (exfalso;omega)|refine Wu.h ?_ ?_<;>intro h<;>try simp only [h]|((fail_if_success refine Wz.h ?_);first|simp (disch:=omega) only [↓LD,LA,a0A,seval]|(refine And.intro ?_ ?_;omega)|simp only [D.int,D.bool]))
   ·have hv0:v=0:=by assumption
    rw [if_pos hv0] at he
    rw [←he] at hF ho2
    rw [if_pos rfl] at hF
    exact Next.mk (i+1,s') (by kernel_rfl) ⟨by dsimp only;omega,ho2 rfl,hF⟩ (by dsimp only;omega)
   ·have hv0:¬ v=0:=by assumption
    rw [if_neg hv0] at he
    rw [←he,if_neg hv0] at hF
    rw [hF]
    exact RetS.still (ds:=[.ag [jI,jI,jI,jI,jF,jN,jN,jN,jN],D.int v]) (by kernel_rfl) (by kernel_rfl) (.tps (.cons (.ags (.cons .f (.cons .f (.cons .f (.cons .f (.cons .f (.cons .nil (.cons .nil (.cons .nil (.cons .nil .nil)))))))))) (.cons .f .nil))) ⟨rfl,rfl⟩
 ·repeat' (with_reducible first|refine Wx.h ?_|refine Wb.h fun K hK=>?_|(refine hK _ ?_;clear hK K)|(refine wT ?_ ?_;assumption)|(refine wF ?_ ?_;assumption)|(refine Wy.h ?_ ?_;kernel_rfl)|refine Wq.h ?_ ?_<;>intro h<;>try (exfalso;omega)|refine Wu.h ?_ ?_<;>intro h<;>try simp only [h]|((fail_if_success refine Wz.h ?_);first|simp (disch:=omega) only [↓LD,LA,a0A,seval,LEv,stL,rN,rT,rS]|(refine And.intro ?_ ?_;omega)|simp only [D.int,D.bool]))
  rw [List.drop_of_length_le (by omega),a0M] at hF
  rw [hF]
  exact RetS.still (ds:=[.ag (stL 2 3 4 s),D.int 0]) (by kernel_rfl) (by kernel_rfl) (.tps (.cons (e1K rfl rfl rfl) (.cons .f .nil))) ⟨rfl,rfl⟩
theorem k0B (s:S12):Con Tryz.prog 100 [jN,.fn 64 [.pt 0 0]] [stF s] fun r H'=>r=D.int (-1)∧H'=[stF s]:=by
 refine Con.walk good d0k (by simp) ?_
 unfold c0p
 simp only [a0J]
 repeat' (with_reducible first|refine Wx.h ?_|refine Wb.h fun K hK=>?_|(refine hK _ ?_;clear hK K)|(refine wT ?_ ?_;assumption)|(refine wF ?_ ?_;assumption)|(refine Wy.h ?_ ?_;kernel_rfl)|refine Wq.h ?_ ?_<;>intro h<;>try (exfalso;omega)|refine Wu.h ?_ ?_<;>intro h<;>try simp only [h]|((fail_if_success refine Wz.h ?_);first|simp (disch:=omega) only [↓LD,LA,a0A,seval]|(refine And.intro ?_ ?_;omega)|simp only [D.int,D.bool]))
 refine HS.loopG [7,8] (fun _:Unit=>⟨frm 19 [(7,jI),(8,jI)],[stF s],[]⟩) (fun _=>True) (fun _=>0) () (by kernel_rfl) trivial ?_
 rintro - -
 repeat' (with_reducible first|refine Wx.h ?_|refine Wb.h fun K hK=>?_|(refine hK _ ?_;clear hK K)|(refine wT ?_ ?_;assumption)|(refine wF ?_ ?_;assumption)|(refine Wy.h ?_ ?_;kernel_rfl)|refine Wq.h ?_ ?_<;>intro h<;>try (exfalso;omega)|refine Wu.h ?_ ?_<;>intro h<;>try simp only [h]|((fail_if_success refine Wz.h ?_);first|simp (disch:=omega) only [↓LD,LA,a0A,seval]|(refine And.intro ?_ ?_;omega)|simp only [D.int,D.bool]))
 exact end1 rfl rfl (by kernel_rfl) .f ⟨rfl,rfl⟩
theorem h0N (s:S12):Con Tryz.prog 63 [jN,.fn 64 [.pt 0 0]] [stF s] fun r H'=>r=jN∧H'=[stF s]:=by
 refine Con.walk good d0c (by simp) ?_
 unfold c0b
 simp only [a0J]
 repeat' (with_reducible first|refine Wx.h ?_|refine Wb.h fun K hK=>?_|(refine hK _ ?_;clear hK K)|(refine wT ?_ ?_;assumption)|(refine wF ?_ ?_;assumption)|(refine Wy.h ?_ ?_;kernel_rfl)|refine Wq.h ?_ ?_<;>intro h<;>try (exfalso;omega)|refine Wu.h ?_ ?_<;>intro h<;>try simp only [h]|((fail_if_success refine Wz.h ?_);first|simp (disch:=omega) only [↓LD,LA,a0A,seval]|(refine And.intro ?_ ?_;omega)|simp only [D.int,D.bool]))
 refine a0D (k0B s) [0] (by kernel_rfl) rfl rfl ?_
 rintro _ _ ⟨rfl,rfl⟩
 simp (disch:=omega) only [↓LD,LA,a0A,seval,ren,List.getElem?_nil,stF]
 repeat' (with_reducible first|refine Wx.h ?_|refine Wb.h fun K hK=>?_|(refine hK _ ?_;clear hK K)|(refine wT ?_ ?_;assumption)|(refine wF ?_ ?_;assumption)|(refine Wy.h ?_ ?_;kernel_rfl)|refine Wq.h ?_ ?_<;>intro h<;>try (exfalso;omega)|refine Wu.h ?_ ?_<;>intro h<;>try simp only [h]|((fail_if_success refine Wz.h ?_);first|simp (disch:=omega) only [↓LD,LA,a0A,seval]|(refine And.intro ?_ ?_;omega)|simp only [D.int,D.bool]))
 exact end1 rfl rfl (by kernel_rfl) .f ⟨rfl,rfl⟩
instance {l:List Ev}{H:List Row}{K:D→List Row→Prop}[hl:Kn (FitL l)]:Wa (a0S Tryz.prog (.fn 24 []) [.f (fEv l)] H K)
  (K (.tp [sA (a0M s0 l).2,.f (.v (.int .i64 (a0M s0 l).1))]) H):=⟨fun h=>a0C (x0i l hl.h.1 hl.h.2) rfl rfl rfl h⟩
def misL (t:Br):List Ev:=(allL (sigM t)).filter fun e=>!hadB (a0M s0 (curL t)).2 e
set_option maxRecDepth 100000 in
theorem q0h (t:Br)(ht:TrK t)(hs:∀ e∈sigM t,FitV e∧e.name.length≤100000)(hsl:(sigM t).length≤1000000):Con Tryz.prog 27 [.ag [.f (fBr t)]] [] fun r H'=>∃ xs,r = .f (.s ((misL t).flatMap Ev.cs++xs) (misL t).length)∧H'=[]:=by
 haveI:Kn (TrK t):=⟨ht⟩
 haveI:Kn (FitL (curL t)):=⟨ht.cur.fitL⟩
 have hsg:=ht.cur.ok.wk.fit.fit.sgs
 have hA:=v0e t ht hs hsl
 refine Con.walk good n0s (by simp) ?_
 unfold g0X misL
 simp only [a0J]
 have hal:(allL (sigM t)).length≤1000000:=by unfold allL;rw [List.length_map,(c0f _).length_eq,List.length_map];exact hsl
 repeat' (with_reducible first|refine Wx.h ?_|refine Wb.h fun K hK=>?_|(refine hK _ ?_;clear hK K)|(refine wT ?_ ?_;assumption)|(refine wF ?_ ?_;assumption)|(refine Wy.h ?_ ?_;kernel_rfl)|refine Wq.h ?_ ?_<;>intro h<;>try (exfalso;omega)|refine Wu.h ?_ ?_<;>intro h<;>try simp only [h]|((fail_if_success refine Wz.h ?_);first|simp (disch:=omega) only [↓LD,LA,a0A,seval,LBr]|(refine And.intro ?_ ?_;omega)|simp only [D.int,D.bool]))
 by_cases hz:(allL (sigM t)).length=0
 ·rw [alR,if_pos hz,alH,if_pos hz] at hA
  have hm:((allL (sigM t)).filter fun e=>!hadB (a0M s0 (curL t)).2 e).length=0:=by rw [List.eq_nil_of_length_eq_zero hz];rfl
  refine a0C hA rfl rfl rfl ?_
  repeat' (with_reducible first|refine Wx.h ?_|refine Wb.h fun K hK=>?_|(refine hK _ ?_;clear hK K)|(refine wT ?_ ?_;assumption)|(refine wF ?_ ?_;assumption)|(refine Wy.h ?_ ?_;kernel_rfl)|refine Wq.h ?_ ?_<;>intro h<;>try (exfalso;omega)|refine Wu.h ?_ ?_<;>intro h<;>try simp only [h]|((fail_if_success refine Wz.h ?_);first|simp (disch:=omega) only [↓LD,LA,a0A,seval,LBr]|(refine And.intro ?_ ?_;omega)|simp only [D.int,D.bool]))
  refine a0D (h0N (a0M s0 (curL t)).2) [1] (by kernel_rfl) rfl rfl ?_
  rintro _ _ ⟨rfl,rfl⟩
  simp (disch:=omega) only [↓LD,LA,a0A,seval,ren,List.getElem?_nil,stF]
  repeat' (with_reducible first|refine Wx.h ?_|refine Wb.h fun K hK=>?_|(refine hK _ ?_;clear hK K)|(refine wT ?_ ?_;assumption)|(refine wF ?_ ?_;assumption)|(refine Wy.h ?_ ?_;kernel_rfl)|refine Wq.h ?_ ?_<;>intro h<;>try (exfalso;omega)|refine Wu.h ?_ ?_<;>intro h<;>try simp only [h]|((fail_if_success refine Wz.h ?_);first|simp (disch:=omega) only [↓LD,LA,a0A,seval,LBr]|(refine And.intro ?_ ?_;omega)|simp only [D.int,D.bool]))
  exact end1 rfl rfl (by kernel_rfl) .nil ⟨[],by rw [List.eq_nil_of_length_eq_zero hm];rfl,rfl⟩
 ·rw [alR,if_neg hz,alH,if_neg hz] at hA
  refine a0D hA [] (by kernel_rfl) rfl rfl ?_
  rintro _ _ ⟨rfl,rfl⟩
  simp (disch:=omega) only [↓LD,LA,a0A,seval,ren,List.getElem?_nil,rEv]
  repeat' (with_reducible first|refine Wx.h ?_|refine Wb.h fun K hK=>?_|(refine hK _ ?_;clear hK K)|(refine wT ?_ ?_;assumption)|(refine wF ?_ ?_;assumption)|(refine Wy.h ?_ ?_;kernel_rfl)|refine Wq.h ?_ ?_<;>intro h<;>try (exfalso;omega)|refine Wu.h ?_ ?_<;>intro h<;>try simp only [h]|((fail_if_success refine Wz.h ?_);first|simp (disch:=omega) only [↓LD,LA,a0A,seval,LBr]|(refine And.intro ?_ ?_;omega)|simp only [D.int,D.bool]))
  refine a0D (h0o (allL (sigM t)) (a0M s0 (curL t)).2 hz hal hsg) [2,1] (by kernel_rfl) rfl rfl ?_
  rintro _ _ ⟨xs,rfl,rfl⟩
  by_cases hm:((allL (sigM t)).filter fun e=>!hadB (a0M s0 (curL t)).2 e).length=0
  ·rw [if_pos hm]
   simp (disch:=omega) only [↓LD,LA,a0A,seval,ren,List.getElem?_nil,stF]
   repeat' (with_reducible first|refine Wx.h ?_|refine Wb.h fun K hK=>?_|(refine hK _ ?_;clear hK K)|(refine wT ?_ ?_;assumption)|(refine wF ?_ ?_;assumption)|(refine Wy.h ?_ ?_;kernel_rfl)|refine Wq.h ?_ ?_<;>intro h<;>try (exfalso;omega)|refine Wu.h ?_ ?_<;>intro h<;>try simp only [h]|((fail_if_success refine Wz.h ?_);first|simp (disch:=omega) only [↓LD,LA,a0A,seval,LBr]|(refine And.intro ?_ ?_;omega)|simp only [D.int,D.bool]))
   exact end1 rfl rfl (by kernel_rfl) .f ⟨[],by rw [List.eq_nil_of_length_eq_zero hm];rfl,rfl⟩
  ·rw [if_neg hm]
   simp (disch:=omega) only [↓LD,LA,a0A,seval,ren,List.getElem?_nil,stF]
   repeat' (with_reducible first|refine Wx.h ?_|refine Wb.h fun K hK=>?_|(refine hK _ ?_;clear hK K)|(refine wT ?_ ?_;assumption)|(refine wF ?_ ?_;assumption)|(refine Wy.h ?_ ?_;kernel_rfl)|refine Wq.h ?_ ?_<;>intro h<;>try (exfalso;omega)|refine Wu.h ?_ ?_<;>intro h<;>try simp only [h]|((fail_if_success refine Wz.h ?_);first|simp (disch:=omega) only [↓LD,LA,a0A,seval,LBr]|(refine And.intro ?_ ?_;omega)|simp only [D.int,D.bool]))
   exact end1 rfl rfl (by kernel_rfl) (.sl (T:=73) (xs:=((allL (sigM t)).filter fun e=>!hadB (a0M s0 (curL t)).2 e).flatMap Ev.cs++xs) rfl (fun e=>absurd e hm)) ⟨xs,rfl,rfl⟩
theorem t0u {t:Br}(ht:TrK t):∀ e∈sigM t,FitV e∧e.name.length≤100000:=fun e he=>by
 obtain ⟨h7,b,hb,heb⟩:=(y0g t).mem e he
 have ok:=(ht.ok b hb).1
 have hr:=(rightE_iff.1 (ok.right heb)).2.2.2.2.2.2.1
 rw [if_pos (by omega)] at hr
 exact ⟨ok.fit e heb,by have:=n0a hr;omega⟩
theorem k0k:∀ {l:List Ev} {ms:List Ev},(l.foldl addS ms).length≤ms.length+l.length
 | [],ms=>by simp
 | e :: l,ms=>by
  have h1:=k0k (l:=l) (ms:=addS ms e)
  have h2:=b1d (ms:=ms) (e:=e)
  rw [List.foldl_cons,List.length_cons];omega
theorem m0d:∀ {l:Br} {ms:List Ev},(∀ b∈l,b.length≤200)→(l.foldl (fun ms b=>b.foldl addS ms) ms).length≤ms.length+200*l.length
 | [],ms,_=>by simp
 | b :: l,ms,h=>by
  have h1:=m0d (l:=l) (ms:=b.foldl addS ms) fun x hx=>h x (by simp [hx])
  have h2:=k0k (l:=b) (ms:=ms)
  have h3:=h b (by simp)
  rw [List.foldl_cons,List.length_cons];omega
theorem n0k {t:Br}(ht:TrK t):(sigM t).length≤1000000:=by
 have h:=m0d (l:=t) (ms:=[]) fun b hb=>(ht.ok b hb).1.len
 have:=ht.len
 unfold sigM
 simp only [List.length_nil] at h
 omega
def extS:Ext:=fun f=>match Nat.beq f 69 with
 | true=>some (n0h 113 9 sortS)
 | false=>none
theorem e1O:∀ f g,extS f=some g→e0U Tryz.prog f g:=by
 intro f g h
 unfold extS at h
 split at h
 ·rename_i hf
  obtain rfl:=Nat.eq_of_beq_eq_true hf
  cases h
  exact l0y
 ·cases h
theorem b1C:t0n (runF Tryz.prog extS 60 29 [] [])=true:=by kernel_rfl
theorem w0O:Con Tryz.prog 29 [] [] fun r H'=>r=D.bool true∧H'=[] :=
 (Con.run good e1O (d1F (by kernel_rfl)) (q0Z (by rw [←e1N];exact b1C))).mono fun _ _ h=>h
instance {H:List Row}{K:D→List Row→Prop}:Wa (a0S Tryz.prog (.fn 29 []) [] H K) (K (.f (.v (.bool true))) H):=⟨fun h=>a0C w0O rfl rfl rfl h⟩
def c0y:SCode :=
  (jq ([.a 1 (.box 48 (.t 0)),.a 2 (.mv kF)]) (jq ((ap [jL 14 3 1,.a 15 (.call (kC 19) [(.t 14)])] [.a 3 (.alloc 50 [jN]),.n (.store 1 (.t 3) (.t
 15))])) (jq ([jo 16 0 3,jl 17 16,.a 18 (.bld [jN] [(0,1,(.t 17))]),.a 4 (.alloc 30 [jN]),.n (.store 1 (.t 4) (.t 18))]) (jq ((ap [jL 19 1 4,.a
 20 (.call (kC 27) [(.t 19)])] [jm 5 20])) (jq ((ap [jL 22 1 4,.a 23 (.call (kC 18) [(.t 22)])] (ap [.a 24 (.call (kC 28) [(.t 23)])] [jm 21 24,jE 25
 0 21,jE 26 1 21,.a 6 (.alloc 65 [jI,jI,jI,jI,jF,jN,jN,jN,jN]),.n (.store 9 (.t 6) (.t 25)),jm 7 26]))) (.seq (jq ((ap [.a 27 (.call (kC 29)
 [])] (ap [.a 28 (.unot (.t 27)),jm 29 28,gM 30 7 29 false] (ap [jG 31 (.bin .neq (.t 30) (kI 0)) 29 false] [.a 32 (.pick (.t 29) kT (.t 31))])))) (jc
 32 (jq ([.a 2 (.mv kF)]) .ret) .skip)) (.seq (jq ([jk 8 0]) (.block 0 (.loop (.seq (jq ([jm 33 8,jo 34 0 3,jl 35 34,je 36 35,jB 37 .lss 33 36]) (jc
 37 .skip (.exit 0))) (.seq (.block 1 (jq ([jk 9 0]) (.block 2 (.loop (.seq (jq ([jm 40 9,jo 41 0 3,jl 42 41,jm 43 8,jx 44 1 42 43,jl 45 44,je 46
 45,jB 47 .lss 40 46]) (jc 47 .skip (.exit 2))) (.seq (.block 3 (jq ([jo 50 0 3,jl 51 50,jm 52 8,jx 53 1 51 52,jl 54 53,jm 55 9,jx 56 9 54 55,jL
 57 9 56,.a 10 (.alloc 73 [jI,jI,jI,jI,jI,jI,(.f (.v (.string ⟨#[]⟩))),jN,jN]),.n (.store 9 (.t 10) (.t 57))]) (.seq (jq ([jo 58 3 10,jl 59
 58,jb 60 .neq 59 7]) (jc 60 (.exit 3) .skip)) (jq ([jk 11 0]) (.seq (jq ([jk 12 0]) (.block 4 (.loop (.seq (jq ([jm 61 12,jm 62 5,je 63 62,jB 64
 .lss 61 63]) (jc 64 .skip (.exit 4))) (.seq (.block 5 (.seq (.drw [jm 67 5,jm 68 12,jx 69 9 67 68,jo 70 6 69,jl 71 70,jo 72 6 10,jl 73 72,jB 74
 .eql 71 73] [0,0,3,7,15,0,32,127]) (jc 74 (.ops [jm 75 11,jb 76 .add 75 1,jm 11 76]) .skip))) (.ops [jm 65 12,jb 66 .add 65 1,jm 12
 66])))))) (jq ((ap [jL 77 9 6,jo 78 6 10,jl 79 78,.a 80 (.call (kC 30) [(.t 77),(.t 79)])] [jm 13 80])) (jq ((ap [jm 81 13,jm 82 81,gM 83 11 82
 true] (ap [jG 84 (.bin .neq (.t 83) (kI 0)) 82 true] (ap [.a 85 (.pick (.t 82) (.t 84) kF),jm 86 85,gM 87 13 86 false] (ap [jG 88 (.unot (.t 87)) 86
 false,gM 89 88 86 false,gM 90 11 89 true] (ap [jG 91 (.bin .neq (.t 90) (kI 1)) 89 true] (ap [jG 92 (.pick (.t 89) (.t 91) kF) 86 false] [.a 93
 (.pick (.t 86) kT (.t 92))]))))))) (jc 93 (jq ([.a 2 (.mv kF)]) .ret) .skip)))))))) (.ops [jm 48 9,jb 49 .add 48 1,jm 9 49]))))))) (.ops [jm 38 8,jb
 39 .add 38 1,jm 8 39])))))) (jq ((ap [jm 94 5,je 95 94,jL 96 1 4,.a 97 (.call (kC 31) [(.t 96)])] (ap [je 98 97,jB 99 .leq 95 98] (ap [jm 100 99,
 gM 101 5 100 true] (ap [jG 102 (.slen (.t 101)) 100 true,jG 103 (.call (kC 13) [(.t 102),(kI 1)]) 100 true] (ap [jG 104 (.bin .eql (.t 103) (kI 0))
 100 true] [.a 105 (.pick (.t 100) (.t 104) kF),jm 2 105])))))) .ret))))))))
theorem f0N:Fn Tryz.prog 6 106 [.t 2] c0y:=.of Tryz.func6 (by kernel_rfl)
theorem z0n {t:Br}{b:List Ev}{e:Ev}(hb:b∈t)(he:e∈b)(h7:e.ty=7):((misL t).map (·.name)).count e.name=if c0P (a0M s0 (curL t)).2.sgs e.name=true then 0 else 1:=by
 have h:=g0y (p:=fun k=>!c0P (a0M s0 (curL t)).2.sgs k) (k:=e.name) (l:=allL (sigM t))
 have h2:=w0d (e1e hb he h7)
 rw [h2] at h
 refine (show ((misL t).map (·.name)).count e.name=_ from h).trans ?_
 cases c0P (a0M s0 (curL t)).2.sgs e.name<;>rfl
instance {s:S12}{nm:Bs}{H:List Row}{K:D→List Row→Prop}[hs:Kn (s.sgs.length≤1000000)]:Wa (a0S Tryz.prog (.fn 30 []) [sA s,.f (.v (.string (BB nm)))] H K) (K (.f (.v (.bool (c0P s.sgs nm)))) H):=⟨fun h=>a0C (h0x s nm hs.h) rfl rfl rfl h⟩
set_option maxRecDepth 100000 in
theorem c_law_SignalsNone (s:List (List Rw))(a:List Int)(d:List Rd):Con Tryz.prog 6 [lnD s a d] [] fun r H'=>r = .f (.v (.bool true))∧H'=[]:=by
 have ht:=b1n s a d
 have hM:=q0h _ ht (t0u ht) (n0k ht)
 refine Con.walk good f0N (by simp) ?_
 unfold c0y lnD
 simp only [a0J]
 repeat' (with_reducible first|refine Wx.h ?_|refine Wb.h fun K hK=>?_|(refine hK _ ?_;clear hK K)|(refine wT ?_ ?_;assumption)|(refine wF ?_ ?_;assumption)|(refine Wy.h ?_ ?_;kernel_rfl)|refine Wq.h ?_ ?_<;>intro h<;>try (exfalso;omega)|refine Wu.h ?_ ?_<;>intro h<;>try simp only [h]|((fail_if_success refine Wz.h ?_);first|simp (disch:=omega) only [↓LD,LA,a0A,seval,LBr,LSs]|(refine And.intro ?_ ?_;omega)|simp only [D.int,D.bool]))
 refine a0D hM [] (by kernel_rfl) rfl rfl ?_
 rintro _ _ ⟨xs,rfl,rfl⟩
 haveI:Kn (TrK (a0g s a d)):=⟨ht⟩
 haveI:Kn (FitL (curL (a0g s a d))):=⟨ht.cur.fitL⟩
 have hfo:=ht.cur.fold
 simp (disch:=omega) only [↓LD,LA,a0A,seval,ren,List.getElem?_nil]
 repeat' (with_reducible first|refine Wx.h ?_|refine Wb.h fun K hK=>?_|(refine hK _ ?_;clear hK K)|(refine wT ?_ ?_;assumption)|(refine wF ?_ ?_;assumption)|(refine Wy.h ?_ ?_;kernel_rfl)|refine Wq.h ?_ ?_<;>intro h<;>try (exfalso;omega)|refine Wu.h ?_ ?_<;>intro h<;>try simp only [h]|((fail_if_success refine Wz.h ?_);first|simp (disch:=omega) only [↓LD,LA,a0A,seval,LBr,LSs,hfo]|(refine And.intro ?_ ?_;omega)|simp only [D.int,D.bool]))
 have hmc:=fun b e=>z0n (t:=a0g s a d) (b:=b) (e:=e)
 have hA:=v0e _ ht (t0u ht) (n0k ht)
 have hsg:=ht.cur.ok.wk.fit.fit.sgs
 have htl:=ht.len
 have hml:(misL (a0g s a d)).length≤1000000:=by
  have h1:=List.length_filter_le (fun e=>!hadB (a0M s0 (curL (a0g s a d))).2 e) (allL (sigM (a0g s a d)))
  have h2:(allL (sigM (a0g s a d))).length=(sigM (a0g s a d)).length:=by unfold allL;rw [List.length_map,(c0f _).length_eq,List.length_map]
  have h3:=n0k ht
  unfold misL;omega
 haveI:Kn ((a0M s0 (curL (a0g s a d))).2.sgs.length≤1000000):=⟨hsg⟩
 refine HS.loopG [2,3,4,5,6,8] (fun i:Nat=>⟨frm 106 [(2,D.bool false),(3,.pt 0 0),(4,.pt 1 0),(5,.f (.s ((misL (a0g s a d)).flatMap Ev.cs++xs) (misL (a0g s a d)).length)),(6,.pt 2 0),(8,D.int i)],[.box 50 [.f (fBr (a0g s a d))],.box 30 [.f (fBr (a0g s a d))],stF (a0M s0 (curL (a0g s a d))).2],[]⟩) (fun i=>i≤(a0g s a d).length) (fun i=>(a0g s a d).length-i) 0 (by kernel_rfl) (Nat.zero_le _) ?_
 rintro i hi
 by_cases hil:i<(a0g s a d).length
 ·obtain ⟨ok,ne⟩:=ht.gt hil
  have hbl:=ok.len
  have hmb:=a0L hil
  repeat' (with_reducible first|refine Wx.h ?_|refine Wb.h fun K hK=>?_|(refine hK _ ?_;clear hK K)|(refine wT ?_ ?_;assumption)|(refine wF ?_ ?_;assumption)|(refine Wy.h ?_ ?_;kernel_rfl)|refine Wq.h ?_ ?_<;>intro h<;>try (exfalso;omega)|refine Wu.h ?_ ?_<;>intro h<;>try simp only [h]|((fail_if_success refine Wz.h ?_);first|simp (disch:=omega) only [↓LD,LA,a0A,seval,LBr,LEv]|(refine And.intro ?_ ?_;omega)|simp only [D.int,D.bool]))
  refine HS.loopG [2,3,4,5,6,8,9] (fun j:Nat=>⟨frm 106 [(2,D.bool false),(3,.pt 0 0),(4,.pt 1 0),(5,.f (.s ((misL (a0g s a d)).flatMap Ev.cs++xs) (misL (a0g s a d)).length)),(6,.pt 2 0),(8,D.int i),(9,D.int j)],[.box 50 [.f (fBr (a0g s a d))],.box 30 [.f (fBr (a0g s a d))],stF (a0M s0 (curL (a0g s a d))).2],[]⟩) (fun j=>j≤(gt (a0g s a d) i).length) (fun j=>(gt (a0g s a d) i).length-j) 0 (by kernel_rfl) (Nat.zero_le _) ?_
  rintro j hj
  by_cases hjl:j<(gt (a0g s a d) i).length
  ·have hme:=a0L hjl
   have hld:=fun H:List Row=>c0T (H:=H) hjl
   generalize hge:gt (gt (a0g s a d) i) j=e at *
   by_cases h7:e.ty=7
   rotate_left
   ·repeat' (with_reducible first|refine Wx.h ?_|refine Wb.h fun K hK=>?_|(refine hK _ ?_;clear hK K)|(refine wT ?_ ?_;assumption)|(refine wF ?_ ?_;assumption)|(refine Wy.h ?_ ?_;kernel_rfl)|refine Wq.h ?_ ?_<;>intro h<;>try (exfalso;omega)|refine Wu.h ?_ ?_<;>intro h<;>try simp only [h]|((fail_if_success refine Wz.h ?_);first|simp (disch:=omega) only [↓LD,LA,a0A,seval,LBr,LEv,a0K,hld,hge,Ev.cs,List.map_cons,List.map_nil,-a0A]|(refine And.intro ?_ ?_;omega)|simp only [D.int,D.bool]))
    exact Next.mk (j+1) (by kernel_rfl) (by omega) (by omega)
   have hcn:=hmc _ _ hmb hme h7
   repeat' (with_reducible first|refine Wx.h ?_|refine Wb.h fun K hK=>?_|(refine hK _ ?_;clear hK K)|(refine wT ?_ ?_;assumption)|(refine wF ?_ ?_;assumption)|(refine Wy.h ?_ ?_;kernel_rfl)|refine Wq.h ?_ ?_<;>intro h<;>try (exfalso;omega)|refine Wu.h ?_ ?_<;>intro h<;>try simp only [h]|((fail_if_success refine Wz.h ?_);first|simp (disch:=omega) only [↓LD,LA,a0A,seval,LBr,LEv,a0K,hld,hge,Ev.cs,List.map_cons,List.map_nil,-a0A]|(refine And.intro ?_ ?_;omega)|simp only [D.int,D.bool]))
   refine HS.loopG [2,3,4,5,6,8,9,10,11,12] (fun q:Nat=>⟨frm 106 [(2,D.bool false),(3,.pt 0 0),(4,.pt 1 0),(5,.f (.s ((misL (a0g s a d)).flatMap Ev.cs++xs) (misL (a0g s a d)).length)),(6,.pt 2 0),(8,D.int i),(9,D.int j),(10,.pt 3 0),(11,D.int (((misL (a0g s a d)).take q).map (·.name) |>.count e.name)),(12,D.int q)],[.box 50 [.f (fBr (a0g s a d))],.box 30 [.f (fBr (a0g s a d))],stF (a0M s0 (curL (a0g s a d))).2,.box 73 [D.int e.id,D.int e.ver,D.int e.time,D.int e.ty,D.int e.node,D.int e.n,.f (.v (.string (BB e.name))),.f (fY e.data),.f (fG e.defs)]],[]⟩) (fun q=>q≤(misL (a0g s a d)).length) (fun q=>(misL (a0g s a d)).length-q) 0 (by kernel_rfl) (Nat.zero_le _) ?_
   rintro q hq
   by_cases hql:q<(misL (a0g s a d)).length
   ·have hat:((misL (a0g s a d)).flatMap Ev.cs++xs)[q*9+6]?=(Ev.cs (gt (misL (a0g s a d)) q))[6]?:=by
     rw [List.getElem?_append_left (by rw [a0K];omega)]
     exact a0s (j:=6) Ev.cs_len hql (by omega)
    have hcc:((misL (a0g s a d)).take (q+1)).map (·.name)=((misL (a0g s a d)).take q).map (·.name)++[(gt (misL (a0g s a d)) q).name]:=by
     rw [List.take_succ_eq_append_getElem hql,←b0f hql,List.map_append];rfl
    have hcb:(((misL (a0g s a d)).take q).map (·.name)).count e.name≤q:=Nat.le_trans List.count_le_length (by rw [List.length_map,List.length_take];omega)
    have hc2:(((misL (a0g s a d)).take (q+1)).map (·.name)).count e.name=(((misL (a0g s a d)).take q).map (·.name)).count e.name+(if (gt (misL (a0g s a d)) q).name=e.name then 1 else 0):=by
     rw [hcc,List.count_append,List.count_singleton]
     congr 1
     by_cases hx:(gt (misL (a0g s a d)) q).name=e.name
     ·simp [hx]
     ·simp [hx]
    repeat' (with_reducible first|refine Wx.h ?_|refine We.h fun K hK=>?_|refine Wd.h fun K M hK hM=>?_|(refine hK _ _ _ _ ?_;clear hK K;try clear hM M)|(refine hM ?_;clear hM M;try clear hK K)|refine Wb.h fun K hK=>?_|(refine hK _ ?_;clear hK K)|(refine wT ?_ ?_;assumption)|(refine wF ?_ ?_;assumption)|(refine Wy.h ?_ ?_;kernel_rfl)|refine Wq.h ?_ ?_<;>intro h<;>try (exfalso;omega)|refine Wu.h ?_ ?_<;>intro h<;>try simp only [h]|((fail_if_success refine Wz.h ?_);first|simp (disch:=omega) only [↓LD,LA,a0A,seval,hat,Ev.cs]|(refine And.intro ?_ ?_;omega)|simp only [D.int,D.bool]))
    ·rw [if_pos (by assumption)] at hc2
     exact Next.mk (q+1) (by rw [hc2];kernel_rfl) (by omega) (by omega)
    ·rw [if_neg (by assumption),Nat.add_zero] at hc2
     exact Next.mk (q+1) (by rw [hc2];kernel_rfl) (by omega) (by omega)
   ·rw [List.take_of_length_le (by omega),hcn]
    cases hhb:c0P (a0M s0 (curL (a0g s a d))).2.sgs e.name
    all_goals
     repeat' (with_reducible first|refine Wx.h ?_|refine We.h fun K hK=>?_|refine Wd.h fun K M hK hM=>?_|(refine hK _ _ _ _ ?_;clear hK K;try clear hM M)|(refine hM ?_;clear hM M;try clear hK K)|refine Wb.h fun K hK=>?_|(refine hK _ ?_;clear hK K)|(refine wT ?_ ?_;assumption)|(refine wF ?_ ?_;assumption)|(refine Wy.h ?_ ?_;kernel_rfl)|refine Wq.h ?_ ?_<;>intro h<;>try (exfalso;omega)|refine Wu.h ?_ ?_<;>intro h<;>try simp only [h]|((fail_if_success refine Wz.h ?_);first|simp (disch:=omega) only [↓LD,LA,a0A,seval,LBr,stF,hhb,↓reduceIte]|(refine And.intro ?_ ?_;omega)|simp only [D.int,D.bool]))
    all_goals exact Next.mk (j+1) (by kernel_rfl) (by omega) (by omega)
  ·repeat' (with_reducible first|refine Wx.h ?_|refine Wb.h fun K hK=>?_|(refine hK _ ?_;clear hK K)|(refine wT ?_ ?_;assumption)|(refine wF ?_ ?_;assumption)|(refine Wy.h ?_ ?_;kernel_rfl)|refine Wq.h ?_ ?_<;>intro h<;>try (exfalso;omega)|refine Wu.h ?_ ?_<;>intro h<;>try simp only [h]|((fail_if_success refine Wz.h ?_);first|simp (disch:=omega) only [↓LD,LA,a0A,seval,LBr,LEv]|(refine And.intro ?_ ?_;omega)|simp only [D.int,D.bool]))
   exact Next.mk (i+1) (by kernel_rfl) (by omega) (by omega)
 ·have hmA:(misL (a0g s a d)).length≤(allL (sigM (a0g s a d))).length:=List.length_filter_le _ _
  have hp:=b0g (x:=((misL (a0g s a d)).length:Int)) (n:=1) (by omega)
  repeat' (with_reducible first|refine Wx.h ?_|refine Wb.h fun K hK=>?_|(refine hK _ ?_;clear hK K)|(refine wT ?_ ?_;assumption)|(refine wF ?_ ?_;assumption)|(refine Wy.h ?_ ?_;kernel_rfl)|refine Wq.h ?_ ?_<;>intro h<;>try (exfalso;omega)|refine Wu.h ?_ ?_<;>intro h<;>try simp only [h]|((fail_if_success refine Wz.h ?_);first|simp (disch:=omega) only [↓LD,LA,a0A,seval,LBr,LEv]|(refine And.intro ?_ ?_;omega)|simp only [D.int,D.bool]))
  by_cases hz:(allL (sigM (a0g s a d))).length=0
  ·rw [alR,if_pos hz,alH,if_pos hz] at hA
   refine a0C hA rfl rfl rfl ?_
   repeat' (with_reducible first|refine Wx.h ?_|refine Wb.h fun K hK=>?_|(refine hK _ ?_;clear hK K)|(refine wT ?_ ?_;assumption)|(refine wF ?_ ?_;assumption)|(refine Wy.h ?_ ?_;kernel_rfl)|refine Wq.h ?_ ?_<;>intro h<;>try (exfalso;omega)|refine Wu.h ?_ ?_<;>intro h<;>try simp only [h]|((fail_if_success refine Wz.h ?_);first|simp (disch:=omega) only [↓LD,LA,a0A,seval,LBr]|(refine And.intro ?_ ?_;omega)|simp only [D.int,D.bool]))
   all_goals first|exact end1 rfl rfl (by kernel_rfl) .f ⟨rfl,rfl⟩
  ·rw [alR,if_neg hz,alH,if_neg hz] at hA
   refine a0D hA [] (by kernel_rfl) rfl rfl ?_
   rintro _ _ ⟨rfl,rfl⟩
   simp (disch:=omega) only [↓LD,LA,a0A,seval,ren,List.getElem?_nil,rEv]
   repeat' (with_reducible first|refine Wx.h ?_|refine Wb.h fun K hK=>?_|(refine hK _ ?_;clear hK K)|(refine wT ?_ ?_;assumption)|(refine wF ?_ ?_;assumption)|(refine Wy.h ?_ ?_;kernel_rfl)|refine Wq.h ?_ ?_<;>intro h<;>try (exfalso;omega)|refine Wu.h ?_ ?_<;>intro h<;>try simp only [h]|((fail_if_success refine Wz.h ?_);first|simp (disch:=omega) only [↓LD,LA,a0A,seval,LBr]|(refine And.intro ?_ ?_;omega)|simp only [D.int,D.bool]))
   all_goals first|exact end1 rfl rfl (by kernel_rfl) .f ⟨rfl,rfl⟩
end Go.Proofs.YthjgmldnegaaiaaGreatDoor.Mir
namespace Go.Proofs.YthjgmldnegaaiaaGreatDoor
open Go Go.RowKit
theorem signalsNone_walk (W:World)(hg:∀ p∈Mir.glTab,Mir.RF W (fun _=>False) p.1 p.2)(x:LnIn)(h:lnOk W x) :
  Calls Tryz.prog 6 #[.agg (lnV x).toArray] W fun e w'=>e = .returned (.bool true)∧Below W.heap.size W w' :=
 Mir.Con.calls (Mir.c_law_SignalsNone (lnS x) (lnA x) (lnR x)) hg fun _ hA=>.one (r_ln hA h) .none
end Go.Proofs.YthjgmldnegaaiaaGreatDoor
namespace Go.Proofs.YthjgmldnegaaiaaGreatDoor.signalsNone
open Go
set_option maxHeartbeats 0 in
theorem closed:joinedFacts Tryz.prog 6 Tryz.f6 (OpenSpec.ofChange Rows.signalsNoneSpec).bare Rows.signalsNoneRow=true:=by
 unfold joinedFacts
 repeat' (with_reducible refine Bool.and_eq_true_iff.2 ⟨?_,?_⟩)
 all_goals as_aux_lemma=>kernel_rfl
end Go.Proofs.YthjgmldnegaaiaaGreatDoor.signalsNone
