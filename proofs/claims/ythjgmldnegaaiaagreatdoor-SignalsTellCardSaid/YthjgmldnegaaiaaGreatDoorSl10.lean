/- Lemmas for the proof. No condition. -/
import Derived.Test.YthjgmldnegaaiaaGreatDoorSl09
set_option linter.unusedVariables false
set_option linter.unusedSimpArgs false
namespace Go.Proofs.YthjgmldnegaaiaaGreatDoor.Mir
open Go Go.RowKit
set_option maxHeartbeats 4000000
def S12.cs (s:S12):List F:=[iF s.id,iF s.ver,iF s.time,iF s.closed,bF s.cancel,fG s.defs,fNn s.nodes,fTm s.tms,fSg s.sgs]
def cntL (l:List Nn)(k:Int):Nat:=l.countP fun x=>decide (x.st=k)
theorem i0Y (s:S12)(k:Int)(hl:s.nodes.length≤1000000):Con Tryz.prog 162 [.rf s.cs,D.int k] [] fun r H'=>r=D.int (cntL s.nodes k)∧H'=[]:=by
 obtain ⟨id,ver,time,closed,cancel,defs,nodes,tms,sgs⟩:=s
 dsimp only at hl ⊢
 refine Con.walk good q0Z (by simp) ?_
 unfold k0H
 simp only [a0K]
 repeat' (with_reducible first|refine Wx.h ?_|refine Wb.h fun K hK=>?_|(refine hK _ ?_;clear hK K)|(refine wT ?_ ?_;assumption)|(refine wF ?_ ?_;assumption)|(refine Wy.h ?_ ?_;kernel_rfl)|refine Wq.h ?_ ?_<;>intro h<;>try (exfalso;omega)|refine Wu.h ?_ ?_<;>intro h<;>try simp only [h]|((fail_if_success refine Wz.h ?_);first|simp (disch:=omega) only [↓LD,LA,a0A,seval,LSt,S12.cs]|(refine And.intro ?_ ?_;omega)|simp only [D.int,D.bool]))
 refine HS.loopG [1,5,11,12,13] (fun i:Nat=>⟨frm 25 [(1,D.int k),(5,D.int (cntL (nodes.take i) k)),(11,.f (fNn nodes)),(12,D.int nodes.length),(13,D.int i)],[],[]⟩)
  (fun i=>i≤nodes.length) (fun i=>nodes.length-i) 0 (by kernel_rfl) (Nat.zero_le _) ?_
 rintro i hi
 by_cases hil:i<nodes.length
 ·have hc:(cntL (nodes.take i) k:Nat)≤i:=Nat.le_trans (List.countP_le_length) (by simp;omega)
  have hs:cntL (nodes.take (i+1)) k=cntL (nodes.take i) k+(if (gt nodes i).st=k then 1 else 0):=by
   rw [List.take_succ_eq_append_getElem hil,cntL,List.countP_append,←b0R hil]
   simp [cntL]
  repeat' (with_reducible first|refine Wx.h ?_|refine Wb.h fun K hK=>?_|(refine hK _ ?_;clear hK K)|(refine wT ?_ ?_;assumption)|(refine wF ?_ ?_;assumption)|(refine Wy.h ?_ ?_;kernel_rfl)|refine Wq.h ?_ ?_<;>intro h<;>try (exfalso;omega)|refine Wu.h ?_ ?_<;>intro h<;>try simp only [h]|((fail_if_success refine Wz.h ?_);first|simp (disch:=omega) only [↓LD,LA,a0A,seval,LSt,c0m,Nn.cs,-a0A]|(refine And.intro ?_ ?_;omega)|simp only [D.int,D.bool]))
  ·refine Next.mk (i+1) (by rw [hs,if_pos h];kernel_rfl) (by omega) (by omega)
  ·refine Next.mk (i+1) (by rw [hs,if_neg h];kernel_rfl) (by omega) (by omega)
 ·repeat' (with_reducible first|refine Wx.h ?_|refine Wb.h fun K hK=>?_|(refine hK _ ?_;clear hK K)|(refine wT ?_ ?_;assumption)|(refine wF ?_ ?_;assumption)|(refine Wy.h ?_ ?_;kernel_rfl)|refine Wq.h ?_ ?_<;>intro h<;>try (exfalso;omega)|refine Wu.h ?_ ?_<;>intro h<;>try simp only [h]|((fail_if_success refine Wz.h ?_);first|simp (disch:=omega) only [↓LD,LA,a0A,seval]|(refine And.intro ?_ ?_;omega)|simp only [D.int,D.bool]))
  refine end1 rfl rfl (by kernel_rfl) .f ⟨?_,rfl⟩
  rw [List.take_of_length_le (by omega)];try rfl
def strB (l:Bs):Row:=.box 9 [.f (.v (.string (BB l)))]
theorem k0a (l:List Tm)(g:FuncId)(caps:List D)(H:List Row)(p:Tm→Bool)(hl:l.length≤1000000)
  (hf:∀ x∈l,Con Tryz.prog g (.ag (x.cs.map .f) :: caps) H fun r H'=>r=D.bool (p x)∧H'=H):Con Tryz.prog 181 [.f (fTm l),.fn g caps] H fun r H'=>r=D.int (idxF p 0 l)∧H'=H:=by
 refine Con.walk good j0u (by simp) ?_
 unfold e0h
 simp only [a0K]
 repeat' (with_reducible first|refine Wx.h ?_|refine Wb.h fun K hK=>?_|(refine hK _ ?_;clear hK K)|(refine wT ?_ ?_;assumption)|(refine wF ?_ ?_;assumption)|(refine Wy.h ?_ ?_;kernel_rfl)|refine Wq.h ?_ ?_<;>intro h<;>try (exfalso;omega)|refine Wu.h ?_ ?_<;>intro h<;>try simp only [h]|((fail_if_success refine Wz.h ?_);first|simp (disch:=omega) only [↓LD,LA,a0A,seval,LSt]|(refine And.intro ?_ ?_;omega)|simp only [D.int,D.bool]))
 refine HS.loopP (fun x:Nat=>[(0,.f (fTm l)),(1,.fn g caps),(7,D.int l.length),(8,D.int x)]) (fun _=>H)
  (fun x=>x≤l.length∧idxF p 0 l=idxF p x (l.drop x)) (fun x=>l.length-x) 0 rfl (by kernel_rfl) ⟨Nat.zero_le _,rfl⟩ ?_
 rintro k ⟨hk,hr⟩
 repeat' (with_reducible first|refine Wx.h ?_|refine Wb.h fun K hK=>?_|(refine hK _ ?_;clear hK K)|(refine wT ?_ ?_;assumption)|(refine wF ?_ ?_;assumption)|(refine Wy.h ?_ ?_;kernel_rfl)|refine Wq.h ?_ ?_<;>intro h<;>try (exfalso;omega)|refine Wu.h ?_ ?_<;>intro h<;>try simp only [h]|((fail_if_success refine Wz.h ?_);first|simp (disch:=omega) only [↓LD,LA,a0A,seval,LSt,h0p,-a0A]|(refine And.intro ?_ ?_;omega)|simp only [D.int,D.bool]))
 rotate_left
 ·refine endA rfl rfl ⟨congrArg D.int ?_,rfl⟩
  rw [hr,List.drop_of_length_le (by omega)];try rfl
 refine a0y (hf _ (a0L (by omega))) ?_
 rintro _ H' ⟨rfl,hH⟩
 rw [hH];clear hH H'
 repeat' (with_reducible first|refine Wx.h ?_|refine Wb.h fun K hK=>?_|(refine hK _ ?_;clear hK K)|(refine wT ?_ ?_;assumption)|(refine wF ?_ ?_;assumption)|(refine Wy.h ?_ ?_;kernel_rfl)|refine Wq.h ?_ ?_<;>intro h<;>try (exfalso;omega)|refine Wu.h ?_ ?_<;>intro h<;>try simp only [h]|((fail_if_success refine Wz.h ?_);first|simp (disch:=omega) only [↓LD,LA,a0A,seval,D.bool]|(refine And.intro ?_ ?_;omega)|simp only [D.int,D.bool]))
 ·refine endA rfl rfl ⟨congrArg D.int ?_,rfl⟩
  rw [hr,a0G (by omega),idxF,if_pos h]
 ·refine NextP.mk (k+1) rfl (by kernel_rfl) ?_ ?_
  ·refine ⟨by omega,?_⟩
   rw [hr,a0G (by omega),idxF,if_neg (by simp [h])]
  ·omega
theorem k0k (l:List Sg)(g:FuncId)(caps:List D)(H:List Row)(p:Sg→Bool)(hl:l.length≤1000000)
  (hf:∀ x∈l,Con Tryz.prog g (.ag (x.cs.map .f) :: caps) H fun r H'=>r=D.bool (p x)∧H'=H):Con Tryz.prog 144 [.f (fSg l),.fn g caps] H fun r H'=>r=D.int (idxF p 0 l)∧H'=H:=by
 refine Con.walk good k0G (by simp) ?_
 unfold e0i
 simp only [a0K]
 repeat' (with_reducible first|refine Wx.h ?_|refine Wb.h fun K hK=>?_|(refine hK _ ?_;clear hK K)|(refine wT ?_ ?_;assumption)|(refine wF ?_ ?_;assumption)|(refine Wy.h ?_ ?_;kernel_rfl)|refine Wq.h ?_ ?_<;>intro h<;>try (exfalso;omega)|refine Wu.h ?_ ?_<;>intro h<;>try simp only [h]|((fail_if_success refine Wz.h ?_);first|simp (disch:=omega) only [↓LD,LA,a0A,seval,LSt]|(refine And.intro ?_ ?_;omega)|simp only [D.int,D.bool]))
 refine HS.loopP (fun x:Nat=>[(0,.f (fSg l)),(1,.fn g caps),(7,D.int l.length),(8,D.int x)]) (fun _=>H)
  (fun x=>x≤l.length∧idxF p 0 l=idxF p x (l.drop x)) (fun x=>l.length-x) 0 rfl (by kernel_rfl) ⟨Nat.zero_le _,rfl⟩ ?_
 rintro k ⟨hk,hr⟩
 repeat' (with_reducible first|refine Wx.h ?_|refine Wb.h fun K hK=>?_|(refine hK _ ?_;clear hK K)|(refine wT ?_ ?_;assumption)|(refine wF ?_ ?_;assumption)|(refine Wy.h ?_ ?_;kernel_rfl)|refine Wq.h ?_ ?_<;>intro h<;>try (exfalso;omega)|refine Wu.h ?_ ?_<;>intro h<;>try simp only [h]|((fail_if_success refine Wz.h ?_);first|simp (disch:=omega) only [↓LD,LA,a0A,seval,LSt,b1o,-a0A]|(refine And.intro ?_ ?_;omega)|simp only [D.int,D.bool]))
 rotate_left
 ·refine endA rfl rfl ⟨congrArg D.int ?_,rfl⟩
  rw [hr,List.drop_of_length_le (by omega)];try rfl
 refine a0y (hf _ (a0L (by omega))) ?_
 rintro _ H' ⟨rfl,hH⟩
 rw [hH];clear hH H'
 repeat' (with_reducible first|refine Wx.h ?_|refine Wb.h fun K hK=>?_|(refine hK _ ?_;clear hK K)|(refine wT ?_ ?_;assumption)|(refine wF ?_ ?_;assumption)|(refine Wy.h ?_ ?_;kernel_rfl)|refine Wq.h ?_ ?_<;>intro h<;>try (exfalso;omega)|refine Wu.h ?_ ?_<;>intro h<;>try simp only [h]|((fail_if_success refine Wz.h ?_);first|simp (disch:=omega) only [↓LD,LA,a0A,seval,D.bool]|(refine And.intro ?_ ?_;omega)|simp only [D.int,D.bool]))
 ·refine endA rfl rfl ⟨congrArg D.int ?_,rfl⟩
  rw [hr,a0G (by omega),idxF,if_pos h]
 ·refine NextP.mk (k+1) rfl (by kernel_rfl) ?_ ?_
  ·refine ⟨by omega,?_⟩
   rw [hr,a0G (by omega),idxF,if_neg (by simp [h])]
  ·omega
theorem g0M (l:List Sg)(g:FuncId)(caps:List D)(H:List Row)(p:Sg→Bool)(hl:l.length≤1000000)
  (hf:∀ x∈l,Con Tryz.prog g (.ag (x.cs.map .f) :: caps) H fun r H'=>r=D.bool (p x)∧H'=H):Con Tryz.prog 101 [.f (fSg l),.fn g caps] H fun r H'=>r=D.bool (l.any p)∧H'=H:=by
 refine Con.walk good f0c (by simp) ?_
 unfold c0u
 simp only [a0K]
 repeat' (with_reducible first|refine Wx.h ?_|refine Wb.h fun K hK=>?_|(refine hK _ ?_;clear hK K)|(refine wT ?_ ?_;assumption)|(refine wF ?_ ?_;assumption)|(refine Wy.h ?_ ?_;kernel_rfl)|refine Wq.h ?_ ?_<;>intro h<;>try (exfalso;omega)|refine Wu.h ?_ ?_<;>intro h<;>try simp only [h]|((fail_if_success refine Wz.h ?_);first|simp (disch:=omega) only [↓LD,LA,a0A,seval]|(refine And.intro ?_ ?_;omega)|simp only [D.int,D.bool]))
 refine a0y (k0k l g caps H p hl hf) ?_
 rintro _ H' ⟨rfl,hH⟩
 rw [hH];clear hH H'
 repeat' (with_reducible first|refine Wx.h ?_|refine Wb.h fun K hK=>?_|(refine hK _ ?_;clear hK K)|(refine wT ?_ ?_;assumption)|(refine wF ?_ ?_;assumption)|(refine Wy.h ?_ ?_;kernel_rfl)|refine Wq.h ?_ ?_<;>intro h<;>try (exfalso;omega)|refine Wu.h ?_ ?_<;>intro h<;>try simp only [h]|((fail_if_success refine Wz.h ?_);first|simp (disch:=omega) only [↓LD,LA,a0A,seval,D.int]|(refine And.intro ?_ ?_;omega)|simp only [D.int,D.bool]))
 all_goals
  refine endA rfl rfl ⟨congrArg D.bool ?_,rfl⟩
  rw [←h0h p 0 l];simp;omega
theorem t0I (x:Tm)(nm:Bs):Con Tryz.prog 182 [.ag (x.cs.map .f),.pt 0 0] [strB nm] fun r H'=>r=D.bool (decide (x.name=nm))∧H'=[strB nm]:=by
 refine Con.walk good o0o (by simp) ?_
 unfold h0y Tm.cs strB
 simp only [a0K,List.map]
 repeat' (with_reducible first|refine Wx.h ?_|refine Wb.h fun K hK=>?_|(refine hK _ ?_;clear hK K)|(refine wT ?_ ?_;assumption)|(refine wF ?_ ?_;assumption)|(refine Wy.h ?_ ?_;kernel_rfl)|refine Wq.h ?_ ?_<;>intro h<;>try (exfalso;omega)|refine Wu.h ?_ ?_<;>intro h<;>try simp only [h]|((fail_if_success refine Wz.h ?_);first|simp (disch:=omega) only [↓LD,LA,a0A,seval]|(refine And.intro ?_ ?_;omega)|simp only [D.int,D.bool]))
 all_goals (refine end1 rfl rfl (by kernel_rfl) .f ⟨congrArg D.bool ?_,rfl⟩;simp [h])
theorem a1j (x:Sg)(nm:Bs):Con Tryz.prog 102 [.ag (x.cs.map .f),.pt 0 0] [strB nm] fun r H'=>r=D.bool (decide (x.name=nm))∧H'=[strB nm]:=by
 refine Con.walk good x0H (by simp) ?_
 unfold q0p Sg.cs strB
 simp only [a0K,List.map]
 repeat' (with_reducible first|refine Wx.h ?_|refine Wb.h fun K hK=>?_|(refine hK _ ?_;clear hK K)|(refine wT ?_ ?_;assumption)|(refine wF ?_ ?_;assumption)|(refine Wy.h ?_ ?_;kernel_rfl)|refine Wq.h ?_ ?_<;>intro h<;>try (exfalso;omega)|refine Wu.h ?_ ?_<;>intro h<;>try simp only [h]|((fail_if_success refine Wz.h ?_);first|simp (disch:=omega) only [↓LD,LA,a0A,seval]|(refine And.intro ?_ ?_;omega)|simp only [D.int,D.bool]))
 all_goals (refine end1 rfl rfl (by kernel_rfl) .f ⟨congrArg D.bool ?_,rfl⟩;simp [h])
def tmI (l:List Tm)(nm:Bs):Int:=idxF (fun x:Tm=>decide (x.name=nm)) 0 l
def c0i (l:List Sg)(nm:Bs):Bool:=l.any fun x=>decide (x.name=nm)
theorem x0q (s:S12)(nm:Bs)(hl:s.tms.length≤1000000):Con Tryz.prog 161 [.rf s.cs,.f (.v (.string (BB nm)))] [] fun r H'=>r=D.int (tmI s.tms nm)∧H'=[]:=by
 obtain ⟨id,ver,time,closed,cancel,defs,nodes,tms,sgs⟩:=s
 dsimp only at hl ⊢
 refine Con.walk good s0o (by simp) ?_
 unfold m0u
 simp only [a0K]
 repeat' (with_reducible first|refine Wx.h ?_|refine Wb.h fun K hK=>?_|(refine hK _ ?_;clear hK K)|(refine wT ?_ ?_;assumption)|(refine wF ?_ ?_;assumption)|(refine Wy.h ?_ ?_;kernel_rfl)|refine Wq.h ?_ ?_<;>intro h<;>try (exfalso;omega)|refine Wu.h ?_ ?_<;>intro h<;>try simp only [h]|((fail_if_success refine Wz.h ?_);first|simp (disch:=omega) only [↓LD,LA,a0A,seval,LSt,S12.cs]|(refine And.intro ?_ ?_;omega)|simp only [D.int,D.bool]))
 refine a0y (k0a tms _ _ _ (fun x:Tm=>decide (x.name=nm)) hl (fun x _=>t0I x nm)) ?_
 rintro _ _ ⟨rfl,rfl⟩
 repeat' (with_reducible first|refine Wx.h ?_|refine Wb.h fun K hK=>?_|(refine hK _ ?_;clear hK K)|(refine wT ?_ ?_;assumption)|(refine wF ?_ ?_;assumption)|(refine Wy.h ?_ ?_;kernel_rfl)|refine Wq.h ?_ ?_<;>intro h<;>try (exfalso;omega)|refine Wu.h ?_ ?_<;>intro h<;>try simp only [h]|((fail_if_success refine Wz.h ?_);first|simp (disch:=omega) only [↓LD,LA,a0A,seval]|(refine And.intro ?_ ?_;omega)|simp only [D.int,D.bool]))
 exact end1 rfl rfl (by kernel_rfl) .f ⟨rfl,rfl⟩
theorem w0C (s:S12)(nm:Bs)(hl:s.sgs.length≤1000000):Con Tryz.prog 65 [stD s,.f (.v (.string (BB nm)))] [] fun r H'=>r=D.bool (c0i s.sgs nm)∧H'=[]:=by
 obtain ⟨id,ver,time,closed,cancel,defs,nodes,tms,sgs⟩:=s
 dsimp only at hl ⊢
 refine Con.walk good y0A (by simp) ?_
 unfold w0N stD
 simp only [a0K]
 repeat' (with_reducible first|refine Wx.h ?_|refine Wb.h fun K hK=>?_|(refine hK _ ?_;clear hK K)|(refine wT ?_ ?_;assumption)|(refine wF ?_ ?_;assumption)|(refine Wy.h ?_ ?_;kernel_rfl)|refine Wq.h ?_ ?_<;>intro h<;>try (exfalso;omega)|refine Wu.h ?_ ?_<;>intro h<;>try simp only [h]|((fail_if_success refine Wz.h ?_);first|simp (disch:=omega) only [↓LD,LA,a0A,seval,LSt,S12.cs]|(refine And.intro ?_ ?_;omega)|simp only [D.int,D.bool]))
 refine a0F (g0M sgs _ [.pt 0 0] [strB nm] (fun x:Sg=>decide (x.name=nm)) hl (fun x _=>a1j x nm)) [1] (by kernel_rfl) rfl rfl ?_
 rintro _ _ ⟨rfl,rfl⟩
 simp (disch:=omega) only [↓LD,LA,a0A,seval]
 repeat' (with_reducible first|refine Wx.h ?_|refine Wb.h fun K hK=>?_|(refine hK _ ?_;clear hK K)|(refine wT ?_ ?_;assumption)|(refine wF ?_ ?_;assumption)|(refine Wy.h ?_ ?_;kernel_rfl)|refine Wq.h ?_ ?_<;>intro h<;>try (exfalso;omega)|refine Wu.h ?_ ?_<;>intro h<;>try simp only [h]|((fail_if_success refine Wz.h ?_);first|simp (disch:=omega) only [↓LD,LA,a0A,seval]|(refine And.intro ?_ ?_;omega)|simp only [D.int,D.bool]))
 exact end1 rfl rfl (by kernel_rfl) .f ⟨rfl,rfl⟩
theorem g0B {done:List Bool}:∀ {k:Nat} {ds:List Nd} {x:Int},x∈rdy done k ds→(k:Int)≤x
 | k,[],x,h=>by simp [rdy] at h
 | k,d :: ds,x,h=>by
  simp only [rdy] at h
  split at h
  ·rcases List.mem_cons.1 h with rfl|h
   ·exact Int.le_refl _
   ·have:=g0B h;omega
  ·have:=g0B h;omega
theorem q0j {ds:List Nd}{done:List Bool}{x:Int}(h:x∈b0i ds done):0≤x:=by
 unfold b0i at h
 split at h
 ·have:=g0B h;omega
 ·cases h
theorem k0D {done:List Bool}:∀ (k:Nat) (ds:List Nd),(rdy done k ds).length≤ds.length
 | _,[]=>by simp [rdy]
 | k,d :: ds=>by
  have:=k0D (done:=done) (k+1) ds
  simp only [rdy];split<;>simp<;>omega
theorem i0o (ds:List Nd)(done:List Bool):(b0i ds done).length≤ds.length:=by
 unfold b0i;split
 ·exact k0D 0 ds
 ·simp
instance {ds:List Nd}{done:List Bool}{H:List Row}{K:D→List Row→Prop}[hf:Kn (Fit ds)]:Wa (a0R Tryz.prog (.fn 180 []) [.f (fG ds),.f (fB done)] H K) (done.length<140737488355328∧K (.f (fI (b0i ds done))) H) :=
 ⟨fun h=>a0C (t0e ds done hf.h h.1) rfl rfl rfl h.2⟩
def a0j (l:List Nn):List Bool:=l.map fun x=>decide (x.st=2)
def wtB (l:List Nn)(k:Int):Bool:=decide (k<l.length)&&decide ((gt l k.toNat).st=0)
def c0H (s:S12):List Int:=if s.closed≠0∨s.cancel=true then [] else (b0i s.defs (a0j s.nodes)).filter (wtB s.nodes)
def dn (l:List Nn)(k:Nat):List Bool:=a0j (l.take k)++List.replicate (l.length-k) false
theorem d1n {l:List Nn}{k:Nat}(h:k≤l.length):(dn l k).length=l.length:=by simp [dn,a0j];omega
theorem b1M {l:List Nn}{k:Nat}(h:k<l.length):(dn l k).set k (decide ((gt l k).st=2))=dn l (k+1):=by
 unfold dn a0j
 rw [List.take_succ_eq_append_getElem h,List.map_append,show l.length-k=(l.length-(k+1))+1 by omega,List.replicate_succ,List.set_append_right _ _ (by simp;omega)]
 simp [Nat.min_eq_left (Nat.le_of_lt h),b0R h]
theorem d1J {l:List Nn}:dn l l.length=a0j l:=by simp [dn]
def stF (s:S12):Row:=.box 65 [D.int s.id,D.int s.ver,D.int s.time,D.int s.closed,D.bool s.cancel,.f (fG s.defs),.f (fNn s.nodes),.f (fTm s.tms),.f (fSg s.sgs)]
theorem e0U {g:List Nn}{k:Nat}(hk:k<g.length):((g.flatMap Nn.cs).drop (k*4)).take 4=Nn.cs (gt g k):=h0u d0O hk
theorem e1g (s:S12)(hf:Fit s.defs)(hl:s.nodes.length≤1000000):Con Tryz.prog 160 [stD s] [] fun r H'=>r = .f (fI (c0H s))∧H'=[]:=by
  obtain ⟨id,ver,time,closed,cancel,defs,nodes,tms,sgs⟩:=s
  dsimp only at hf hl ⊢
  haveI:Kn (Fit defs):=⟨hf⟩
  refine Con.walk good h0t (by simp) ?_
  unfold f0u
  simp only [stD,stL]
  simp only [a0K]
  repeat' (with_reducible first|refine Wx.h ?_|refine Wb.h fun K hK=>?_|(refine hK _ ?_;clear hK K)|(refine wT ?_ ?_;assumption)|(refine wF ?_ ?_;assumption)|(refine Wy.h ?_ ?_;kernel_rfl)|refine Wq.h ?_ ?_<;>intro h<;>try (exfalso;omega)|refine Wu.h ?_ ?_<;>intro h<;>try simp only [h]|((fail_if_success refine Wz.h ?_);first|simp (disch:=omega) only [↓LD,LA,a0A,seval,LSt]|(refine And.intro ?_ ?_;omega)|simp only [D.int,D.bool]))
  all_goals try (refine end1 rfl rfl (by kernel_rfl) .nil ⟨congrArg D.f ?_,rfl⟩;first|(rw [c0H,if_pos (.inl (by assumption))];rfl)|(rw [c0H,if_pos (.inr (by assumption))];rfl))
  have hr:c0H ⟨id,ver,time,closed,cancel,defs,nodes,tms,sgs⟩=(b0i defs (a0j nodes)).filter (wtB nodes):=by
    rw [c0H,if_neg];simp_all
  rw [h0o]
  refine HS.loopG [1,3,21,22,23] (fun k:Nat=>⟨frm 64 [(1,.pt 0 0),(3,.sl 1 0 nodes.length),(21,.f (fNn nodes)),(22,D.int nodes.length),(23,D.int k)],[]++[stF ⟨id,ver,time,closed,cancel,defs,nodes,tms,sgs⟩,.data 4 ((dn nodes k).map bF)],[]⟩)
    (fun k=>k≤nodes.length) (fun k=>nodes.length-k) 0 (by kernel_rfl) (Nat.zero_le _) ?_
  rintro k hk
  by_cases hkl:k<nodes.length
  · have hdl:=d1n hk
    repeat' (with_reducible first|refine Wx.h ?_|refine Wb.h fun K hK=>?_|(refine hK _ ?_;clear hK K)|(refine wT ?_ ?_;assumption)|(refine wF ?_ ?_;assumption)|(refine Wy.h ?_ ?_;kernel_rfl)|refine Wq.h ?_ ?_<;>intro h<;>try (exfalso;omega)|refine Wu.h ?_ ?_<;>intro h<;>try simp only [h]|((fail_if_success refine Wz.h ?_);first|simp (disch:=omega) only [↓LD,LA,a0A,seval,LSt,stF,stL,rN,c0m,e0U,b0u,a0h,Nn.cs,List.length_map,hdl,List.cons_append,List.nil_append,-a0A]|(refine And.intro ?_ ?_;omega)|simp only [D.int,D.bool]))
    all_goals
      have hst:=b1M hkl
      first|rw [decide_eq_true h] at hst|rw [decide_eq_false h] at hst
      rw [hst]
      exact Next.mk (k+1) (by kernel_rfl) (by omega) (by omega)
  obtain rfl:k=nodes.length:=by omega
  rw [d1J]
  have hdl:(a0j nodes).length=nodes.length:=by simp [a0j]
  refine HS.view (View.fzd 3 (k:=1) (b:=1) (z:=[.bool false]) rfl rfl (by kernel_rfl) (by simp [a0j]) (by omega) (by omega)) ?_
  rw [show F.s ((a0j nodes).map bF) nodes.length=fB (a0j nodes) by rw [fB,hdl]]
  repeat' (with_reducible first|refine Wx.h ?_|refine Wb.h fun K hK=>?_|(refine hK _ ?_;clear hK K)|(refine wT ?_ ?_;assumption)|(refine wF ?_ ?_;assumption)|(refine Wy.h ?_ ?_;kernel_rfl)|refine Wq.h ?_ ?_<;>intro h<;>try (exfalso;omega)|refine Wu.h ?_ ?_<;>intro h<;>try simp only [h]|((fail_if_success refine Wz.h ?_);first|simp (disch:=omega) only [↓LD,LA,a0A,seval,LSt,stF,stL,hdl,List.cons_append,List.nil_append]|(refine And.intro ?_ ?_;omega)|simp only [D.int,D.bool]))
  have hpos:∀ x∈b0i defs (a0j nodes),0≤x:=fun x hx=>q0j hx
  have hlen:(b0i defs (a0j nodes)).length<1000:=Nat.lt_of_le_of_lt (i0o _ _) hf.1
  generalize b0i defs (a0j nodes)=L at *
  refine HS.view (View.void 3) ?_
  refine HS.view (View.slot 6 (.sl 2 0 0) (.no (by show 2<2+1;omega))) ?_
  refine HS.loopG [1,6,38,39,40] (fun x:Nat × List Int=>⟨frm 64 [(1,.pt 0 0),(6,.sl 1 0 x.2.length),(38,.f (fI L)),(39,D.int L.length),(40,D.int x.1)],[]++[stF ⟨id,ver,time,closed,cancel,defs,nodes,tms,sgs⟩,.data 3 (x.2.map iF)],[]⟩)
    (fun x=>x.1≤L.length∧x.2.length≤x.1∧L.filter (wtB nodes)=x.2++(L.drop x.1).filter (wtB nodes)) (fun x=>L.length-x.1) (0,[]) (by kernel_rfl) ⟨Nat.zero_le _,Nat.le_refl _,rfl⟩ ?_
  rintro ⟨i,out⟩ ⟨hi,ho,hF⟩
  dsimp only at hi ho hF
  by_cases hil:i<L.length
  · have hp:=hpos _ (a0L hil)
    rw [a0G hil] at hF
    repeat' (with_reducible first|refine Wx.h ?_|refine Wb.h fun K hK=>?_|(refine hK _ ?_;clear hK K)|(refine wT ?_ ?_;assumption)|(refine wF ?_ ?_;assumption)|(refine Wy.h ?_ ?_;kernel_rfl)|refine Wq.h ?_ ?_<;>intro h<;>try (exfalso;omega)|refine Wu.h ?_ ?_<;>intro h<;>try simp only [h]|((fail_if_success refine Wz.h ?_);first|simp (disch:=omega) only [↓LD,LA,a0A,seval,LSt,stF,stL,rN,b0u,a0h,Nn.cs,List.cons_append,List.nil_append]|(refine And.intro ?_ ?_;omega)|simp only [D.int,D.bool]))
    all_goals first
      | (have hw:wtB nodes (gt L i)=true:=by simp [wtB, *]
         rw [List.filter_cons_of_pos hw] at hF
         rw [show out.length+1=(out++[gt L i]).length by simp]
         exact Next.mk (i+1,out++[gt L i]) (by kernel_rfl) ⟨by dsimp only;omega,by simp;omega,by dsimp only;rw [hF];simp⟩ (by dsimp only;omega))
      | (have hw:¬ wtB nodes (gt L i)=true:=by simp [wtB, *]
         rw [List.filter_cons_of_neg hw] at hF
         exact Next.mk (i+1,out) (by kernel_rfl) ⟨by dsimp only;omega,by dsimp only;omega,hF⟩ (by dsimp only;omega))
  · repeat' (with_reducible first|refine Wx.h ?_|refine Wb.h fun K hK=>?_|(refine hK _ ?_;clear hK K)|(refine wT ?_ ?_;assumption)|(refine wF ?_ ?_;assumption)|(refine Wy.h ?_ ?_;kernel_rfl)|refine Wq.h ?_ ?_<;>intro h<;>try (exfalso;omega)|refine Wu.h ?_ ?_<;>intro h<;>try simp only [h]|((fail_if_success refine Wz.h ?_);first|simp (disch:=omega) only [↓LD,LA,a0A,seval,stF,stL,List.cons_append,List.nil_append]|(refine And.intro ?_ ?_;omega)|simp only [D.int,D.bool]))
    refine end1 rfl rfl (by kernel_rfl) (.sl (T:=3) (xs:=out.map iF) rfl (fun e=>by rw [List.eq_nil_of_length_eq_zero e];try rfl)) ⟨?_,rfl⟩
    rw [hr,hF,show L.drop i=[] from List.drop_of_length_le (by omega),List.filter_nil,List.append_nil];try rfl
theorem t0Y (s:S12)(hf:Fit s.defs)(hl:s.nodes.length≤1000000):Con Tryz.prog 160 [.ag (stL 0 1 2 s)] [rN s.nodes,rT s.tms,rS s.sgs] fun r H'=>r = .f (fI (c0H s))∧H'=[rN s.nodes,rT s.tms,rS s.sgs]:=by
  obtain ⟨id,ver,time,closed,cancel,defs,nodes,tms,sgs⟩:=s
  dsimp only at hf hl ⊢
  haveI:Kn (Fit defs):=⟨hf⟩
  refine Con.walk good h0t (by simp) ?_
  unfold f0u
  simp only [stD,stL]
  simp only [a0K]
  repeat' (with_reducible first|refine Wx.h ?_|refine Wb.h fun K hK=>?_|(refine hK _ ?_;clear hK K)|(refine wT ?_ ?_;assumption)|(refine wF ?_ ?_;assumption)|(refine Wy.h ?_ ?_;kernel_rfl)|refine Wq.h ?_ ?_<;>intro h<;>try (exfalso;omega)|refine Wu.h ?_ ?_<;>intro h<;>try simp only [h]|((fail_if_success refine Wz.h ?_);first|simp (disch:=omega) only [↓LD,LA,a0A,seval,LSt]|(refine And.intro ?_ ?_;omega)|simp only [D.int,D.bool]))
  all_goals try (refine end1 rfl rfl (by kernel_rfl) .nil ⟨congrArg D.f ?_,rfl⟩;first|(rw [c0H,if_pos (.inl (by assumption))];rfl)|(rw [c0H,if_pos (.inr (by assumption))];rfl))
  have hr:c0H ⟨id,ver,time,closed,cancel,defs,nodes,tms,sgs⟩=(b0i defs (a0j nodes)).filter (wtB nodes):=by
    rw [c0H,if_neg];simp_all
  rw [h0o]
  refine HS.loopG [1,3,21,22,23] (fun k:Nat=>⟨frm 64 [(1,.pt 3 0),(3,.sl 4 0 nodes.length),(21,.sl 0 0 nodes.length),(22,D.int nodes.length),(23,D.int k)],[rN nodes,rT tms,rS sgs]++[.box 65 (stL 0 1 2 ⟨id,ver,time,closed,cancel,defs,nodes,tms,sgs⟩),.data 4 ((dn nodes k).map bF)],[]⟩)
    (fun k=>k≤nodes.length) (fun k=>nodes.length-k) 0 (by kernel_rfl) (Nat.zero_le _) ?_
  rintro k hk
  by_cases hkl:k<nodes.length
  · have hdl:=d1n hk
    repeat' (with_reducible first|refine Wx.h ?_|refine Wb.h fun K hK=>?_|(refine hK _ ?_;clear hK K)|(refine wT ?_ ?_;assumption)|(refine wF ?_ ?_;assumption)|(refine Wy.h ?_ ?_;kernel_rfl)|refine Wq.h ?_ ?_<;>intro h<;>try (exfalso;omega)|refine Wu.h ?_ ?_<;>intro h<;>try simp only [h]|((fail_if_success refine Wz.h ?_);first|simp (disch:=omega) only [↓LD,LA,a0A,seval,LSt,stF,stL,rN,c0m,e0U,b0u,a0h,Nn.cs,List.length_map,hdl,List.cons_append,List.nil_append,-a0A]|(refine And.intro ?_ ?_;omega)|simp only [D.int,D.bool]))
    all_goals
      have hst:=b1M hkl
      first|rw [decide_eq_true h] at hst|rw [decide_eq_false h] at hst
      rw [hst]
      exact Next.mk (k+1) (by kernel_rfl) (by omega) (by omega)
  obtain rfl:k=nodes.length:=by omega
  rw [d1J]
  have hdl:(a0j nodes).length=nodes.length:=by simp [a0j]
  refine HS.view (View.fzd 3 (k:=1) (b:=1) (z:=[.bool false]) rfl rfl (by kernel_rfl) (by simp [a0j]) (by omega) (by omega)) ?_
  rw [show F.s ((a0j nodes).map bF) nodes.length=fB (a0j nodes) by rw [fB,hdl]]
  repeat' (with_reducible first|refine Wx.h ?_|refine Wb.h fun K hK=>?_|(refine hK _ ?_;clear hK K)|(refine wT ?_ ?_;assumption)|(refine wF ?_ ?_;assumption)|(refine Wy.h ?_ ?_;kernel_rfl)|refine Wq.h ?_ ?_<;>intro h<;>try (exfalso;omega)|refine Wu.h ?_ ?_<;>intro h<;>try simp only [h]|((fail_if_success refine Wz.h ?_);first|simp (disch:=omega) only [↓LD,LA,a0A,seval,LSt,stF,stL,hdl,List.cons_append,List.nil_append]|(refine And.intro ?_ ?_;omega)|simp only [D.int,D.bool]))
  have hpos:∀ x∈b0i defs (a0j nodes),0≤x:=fun x hx=>q0j hx
  have hlen:(b0i defs (a0j nodes)).length<1000:=Nat.lt_of_le_of_lt (i0o _ _) hf.1
  generalize b0i defs (a0j nodes)=L at *
  refine HS.view (View.void 3) ?_
  refine HS.view (View.slot 6 (.sl 5 0 0) (.no (by show 5<5+1;omega))) ?_
  refine HS.loopG [1,6,38,39,40] (fun x:Nat × List Int=>⟨frm 64 [(1,.pt 3 0),(6,.sl 4 0 x.2.length),(38,.f (fI L)),(39,D.int L.length),(40,D.int x.1)],[rN nodes,rT tms,rS sgs]++[.box 65 (stL 0 1 2 ⟨id,ver,time,closed,cancel,defs,nodes,tms,sgs⟩),.data 3 (x.2.map iF)],[]⟩)
    (fun x=>x.1≤L.length∧x.2.length≤x.1∧L.filter (wtB nodes)=x.2++(L.drop x.1).filter (wtB nodes)) (fun x=>L.length-x.1) (0,[]) (by kernel_rfl) ⟨Nat.zero_le _,Nat.le_refl _,rfl⟩ ?_
  rintro ⟨i,out⟩ ⟨hi,ho,hF⟩
  dsimp only at hi ho hF
  by_cases hil:i<L.length
  · have hp:=hpos _ (a0L hil)
    rw [a0G hil] at hF
    repeat' (with_reducible first|refine Wx.h ?_|refine Wb.h fun K hK=>?_|(refine hK _ ?_;clear hK K)|(refine wT ?_ ?_;assumption)|(refine wF ?_ ?_;assumption)|(refine Wy.h ?_ ?_;kernel_rfl)|refine Wq.h ?_ ?_<;>intro h<;>try (exfalso;omega)|refine Wu.h ?_ ?_<;>intro h<;>try simp only [h]|((fail_if_success refine Wz.h ?_);first|simp (disch:=omega) only [↓LD,LA,a0A,seval,LSt,stF,stL,rN,b0u,a0h,Nn.cs,List.cons_append,List.nil_append]|(refine And.intro ?_ ?_;omega)|simp only [D.int,D.bool]))
    all_goals first
      | (have hw:wtB nodes (gt L i)=true:=by simp [wtB, *]
         rw [List.filter_cons_of_pos hw] at hF
         rw [show out.length+1=(out++[gt L i]).length by simp]
         exact Next.mk (i+1,out++[gt L i]) (by kernel_rfl) ⟨by dsimp only;omega,by simp;omega,by dsimp only;rw [hF];simp⟩ (by dsimp only;omega))
      | (have hw:¬ wtB nodes (gt L i)=true:=by simp [wtB, *]
         rw [List.filter_cons_of_neg hw] at hF
         exact Next.mk (i+1,out) (by kernel_rfl) ⟨by dsimp only;omega,by dsimp only;omega,hF⟩ (by dsimp only;omega))
  · repeat' (with_reducible first|refine Wx.h ?_|refine Wb.h fun K hK=>?_|(refine hK _ ?_;clear hK K)|(refine wT ?_ ?_;assumption)|(refine wF ?_ ?_;assumption)|(refine Wy.h ?_ ?_;kernel_rfl)|refine Wq.h ?_ ?_<;>intro h<;>try (exfalso;omega)|refine Wu.h ?_ ?_<;>intro h<;>try simp only [h]|((fail_if_success refine Wz.h ?_);first|simp (disch:=omega) only [↓LD,LA,a0A,seval,stF,stL,List.cons_append,List.nil_append]|(refine And.intro ?_ ?_;omega)|simp only [D.int,D.bool]))
    refine end1 rfl rfl (by kernel_rfl) (.sl (T:=3) (xs:=out.map iF) rfl (fun e=>by rw [List.eq_nil_of_length_eq_zero e];try rfl)) ⟨?_,rfl⟩
    rw [hr,hF,show L.drop i=[] from List.drop_of_length_le (by omega),List.filter_nil,List.append_nil];try rfl
set_option maxHeartbeats 2000000
theorem s0N (l:List Int)(x:Int)(hl:l.length<1000000):Con Tryz.prog 179 [.f (fI l),D.int x] [] fun r H'=>r=D.int (idxF (fun y=>decide (x=y)) 0 l)∧H'=[]:=by
 refine Con.walk good p0V (by simp) ?_
 unfold i0J
 simp only [a0K,List.length_cons,List.length_nil,Nat.reduceAdd]
 repeat' (with_reducible first|refine Wx.h ?_|refine Wb.h fun K hK=>?_|(refine hK _ ?_;clear hK K)|(refine wT ?_ ?_;assumption)|(refine wF ?_ ?_;assumption)|(refine Wy.h ?_ ?_;kernel_rfl)|refine Wq.h ?_ ?_<;>intro h<;>try (exfalso;omega)|refine Wu.h ?_ ?_<;>intro h<;>try simp only [h]|((fail_if_success refine Wz.h ?_);first|simp (disch:=omega) only [↓LD,LA,a0A,seval,fI]|(refine And.intro ?_ ?_;omega)|simp only [D.int,D.bool]))
 refine HS.loopP (fun k:Nat=>[(0,.f (fI l)),(1,D.int x),(7,D.int l.length),(8,D.int k)]) (fun _=>[])
  (fun k=>k≤l.length∧idxF (fun y=>decide (x=y)) 0 l=idxF (fun y=>decide (x=y)) k (l.drop k)) (fun k=>l.length-k) 0 rfl (by kernel_rfl) ⟨Nat.zero_le _,rfl⟩ ?_
 rintro k ⟨hk,hr⟩
 repeat' (with_reducible first|refine Wx.h ?_|refine Wb.h fun K hK=>?_|(refine hK _ ?_;clear hK K)|(refine wT ?_ ?_;assumption)|(refine wF ?_ ?_;assumption)|(refine Wy.h ?_ ?_;kernel_rfl)|refine Wq.h ?_ ?_<;>intro h<;>try (exfalso;omega)|refine Wu.h ?_ ?_<;>intro h<;>try simp only [h]|((fail_if_success refine Wz.h ?_);first|simp (disch:=omega) only [↓LD,LA,a0A,seval,fI]|(refine And.intro ?_ ?_;omega)|simp only [D.int,D.bool]))
 ·refine end1 rfl rfl (by kernel_rfl) .f ⟨congrArg D.int ?_,rfl⟩
  rw [hr,a0G (by omega),idxF,if_pos (by simpa using h)]
 ·refine NextP.mk (k+1) rfl (by kernel_rfl) ⟨by omega,?_⟩ (by omega)
  rw [hr,a0G (by omega),idxF,if_neg (by simpa using h)]
 ·refine end1 rfl rfl (by kernel_rfl) .f ⟨congrArg D.int ?_,rfl⟩
  rw [hr,List.drop_of_length_le (by omega)];try rfl
theorem k0h (l:List Int)(x:Int)(hl:l.length<1000000):Con Tryz.prog 159 [.f (fI l),D.int x] [] fun r H'=>r=D.bool (decide (x∈l))∧H'=[]:=by
 refine Con.walk good i0Z (by simp) ?_
 unfold e0f
 simp only [a0K,List.length_cons,List.length_nil,Nat.reduceAdd]
 repeat' (with_reducible first|refine Wx.h ?_|refine Wb.h fun K hK=>?_|(refine hK _ ?_;clear hK K)|(refine wT ?_ ?_;assumption)|(refine wF ?_ ?_;assumption)|(refine Wy.h ?_ ?_;kernel_rfl)|refine Wq.h ?_ ?_<;>intro h<;>try (exfalso;omega)|refine Wu.h ?_ ?_<;>intro h<;>try simp only [h]|((fail_if_success refine Wz.h ?_);first|simp (disch:=omega) only [↓LD,LA,a0A,seval]|(refine And.intro ?_ ?_;omega)|simp only [D.int,D.bool]))
 refine a0y (s0N l x hl) ?_
 rintro _ _ ⟨rfl,rfl⟩
 repeat' (with_reducible first|refine Wx.h ?_|refine Wb.h fun K hK=>?_|(refine hK _ ?_;clear hK K)|(refine wT ?_ ?_;assumption)|(refine wF ?_ ?_;assumption)|(refine Wy.h ?_ ?_;kernel_rfl)|refine Wq.h ?_ ?_<;>intro h<;>try (exfalso;omega)|refine Wu.h ?_ ?_<;>intro h<;>try simp only [h]|((fail_if_success refine Wz.h ?_);first|simp (disch:=omega) only [↓LD,LA,a0A,seval,D.int]|(refine And.intro ?_ ?_;omega)|simp only [D.int,D.bool]))
 all_goals
  refine end1 rfl rfl (by kernel_rfl) .f ⟨congrArg D.bool ?_,rfl⟩
  have h1:=h0h (fun y=>decide (x=y)) 0 l
  have h2:l.any (fun y=>decide (x=y))=decide (x∈l):=by
   rw [Bool.eq_iff_iff];simp
  rw [←h2,←h1];simp;omega
instance {l:List Int}{x:Int}{H:List Row}{K:Bool→D→List Row→Prop}:Wa (a0e Tryz.prog (.fn 159 []) [.f (fI l),.f (.v (.int .i64 x))] H K) (l.length<1000000∧K true (.f (.v (.bool (decide (x∈l))))) H):=⟨fun h=>a0M (k0h l x h.1) rfl rfl rfl h.2⟩
set_option maxHeartbeats 4000000
theorem b0N {α:Type}[Inhabited α]{cs:α→List F}{n:Nat}(hn:∀ x,(cs x).length=n){j:Nat}{x:F}{y:α}(hj:j<n):∀ {l:List α} {k:Nat},k<l.length→cs y=(cs (gt l k)).set j x→(l.flatMap cs).set (k*n+j) x=(l.set k y).flatMap cs
 | [],k,hk,_=>by simp at hk
 | a :: l,0,_,hy=>by
  have:gt (a :: l) 0=a:=rfl
  rw [this] at hy
  rw [List.set_cons_zero,List.flatMap_cons,List.flatMap_cons,hy,Nat.zero_mul,Nat.zero_add,List.set_append_left _ _ (by rw [hn];exact hj)]
 | a :: l,k+1,hk,hy=>by
  have hk':k<l.length:=by simpa using hk
  have:gt (a :: l) (k+1)=gt l k:=by rw [b0R hk,b0R hk'];try rfl
  rw [this] at hy
  rw [List.set_cons_succ,List.flatMap_cons,List.flatMap_cons,←b0N hn hj hk' hy,List.set_append_right _ _ (by rw [hn,Nat.add_mul];omega),hn,show (k+1)*n+j-n=k*n+j by rw [Nat.add_mul];omega]
theorem m0W {α:Type}[Inhabited α]{l:List α}{k:Nat}{y:α}(h:k<l.length):gt (l.set k y) k=y:=by rw [b0R (by rw [List.length_set];exact h)];simp
def stH (s:S12):List Row:=[.box 65 (stL 1 2 3 s),rN s.nodes,rT s.tms,rS s.sgs]
theorem x0o (s:S12):(c0H s).length≤s.defs.length:=by
 unfold c0H
 split
 ·simp
 ·exact Nat.le_trans (List.length_filter_le _ _) (i0o _ _)
def c0P (s:S12)(e:Ev):Int × S12 :=
 if (s.nodes.length:Int)≤e.node∨(s.defs.length:Int)≤e.node then (1,s)
 else if e.node ∉ c0H s∨e.n≠(gt s.nodes e.node.toNat).tr+1 then (4,s)
 else (0,{ s with nodes:=s.nodes.set e.node.toNat { gt s.nodes e.node.toNat with st:=1,tr:=e.n,due:=e.time+(gt s.defs e.node.toNat).le } })
structure Num (s:S12)(e:Ev):Prop where
 time:0≤e.time∧e.time≤1099511627776
 le:∀ d∈s.defs,0≤d.le∧d.le≤1048576
 tr:∀ x∈s.nodes,0≤x.tr∧x.tr≤1000000
set_option maxRecDepth 100000 in
theorem x0E (s:S12)(e:Ev)(hn:Num s e)(h0:0≤e.node)(hf:Fit s.defs)(hl:s.nodes.length≤1000000) :
  Con Tryz.prog 135 [.pt 0 0,evD e] (stH s) fun r H'=>r=D.int (c0P s e).1∧H'=stH (c0P s e).2:=by
 obtain ⟨id,ver,time,closed,cancel,defs,nodes,tms,sgs⟩:=s
 obtain ⟨hn1,hn2,hn3⟩:=hn
 dsimp only at hn1 hn2 hn3 hf hl
 have hfl:=hf.1
 have hrl:(c0H ⟨id,ver,time,closed,cancel,defs,nodes,tms,sgs⟩).length<1000000:=by
  have:=x0o ⟨id,ver,time,closed,cancel,defs,nodes,tms,sgs⟩
  dsimp only at this;omega
 suffices hh:∀ Q:D→List Row→Prop,(∀ r H',r=D.int (c0P ⟨id,ver,time,closed,cancel,defs,nodes,tms,sgs⟩ e).1→H'=stH (c0P ⟨id,ver,time,closed,cancel,defs,nodes,tms,sgs⟩ e).2→Q r H')→Con Tryz.prog 135 [.pt 0 0,evD e] (stH ⟨id,ver,time,closed,cancel,defs,nodes,tms,sgs⟩) Q from hh _ fun _ _ h1 h2=>⟨h1,h2⟩
 intro Q hQ
 refine Con.walk good s0R (by simp) ?_
 unfold m0J
 simp only [a0K,evD,stH,stL,rN,rT,rS]
 repeat' (with_reducible first|refine Wx.h ?_|refine We.h fun K hK=>?_|refine Wd.h fun K M hK hM=>?_|(refine hK _ _ _ _ ?_;clear hK K;try clear hM M)|(refine hM ?_;clear hM M;try clear hK K)|refine Wb.h fun K hK=>?_|(refine hK _ ?_;clear hK K)|(refine wT ?_ ?_;assumption)|(refine wF ?_ ?_;assumption)|(refine Wy.h ?_ ?_;kernel_rfl)|refine Wq.h ?_ ?_<;>intro h<;>try (exfalso;omega)|refine Wu.h ?_ ?_<;>intro h<;>try simp only [h]|((fail_if_success refine Wz.h ?_);first|simp (disch:=omega) only [↓LD,LA,a0A,seval,LSt]|(refine And.intro ?_ ?_;omega)|simp only [D.int,D.bool]))
 ·have hb:c0P ⟨id,ver,time,closed,cancel,defs,nodes,tms,sgs⟩ e=(1,⟨id,ver,time,closed,cancel,defs,nodes,tms,sgs⟩):=by
   unfold c0P;rw [if_pos];dsimp only;omega
  rw [hb] at hQ
  exact end1 rfl rfl (by kernel_rfl) .f (hQ _ _ rfl rfl)
 have hlt:¬ ((nodes.length:Int)≤e.node∨(defs.length:Int)≤e.node):=by omega
 refine e0X (t0Y ⟨id,ver,time,closed,cancel,defs,nodes,tms,sgs⟩ hf hl) [1,2,3] (by kernel_rfl) rfl rfl ?_
 simp (disch:=omega) only [↓LD,LA,a0A,seval,ren,List.getElem?_nil,stL,rN,rT,rS]
 by_cases hm:e.node∈c0H ⟨id,ver,time,closed,cancel,defs,nodes,tms,sgs⟩
 rotate_left
 ·have hd:=decide_eq_false hm
  repeat' (with_reducible first|refine Wx.h ?_|refine We.h fun K hK=>?_|refine Wd.h fun K M hK hM=>?_|(refine hK _ _ _ _ ?_;clear hK K;try clear hM M)|(refine hM ?_;clear hM M;try clear hK K)|refine Wb.h fun K hK=>?_|(refine hK _ ?_;clear hK K)|(refine wT ?_ ?_;assumption)|(refine wF ?_ ?_;assumption)|(refine Wy.h ?_ ?_;kernel_rfl)|refine Wq.h ?_ ?_<;>intro h<;>try (exfalso;omega)|refine Wu.h ?_ ?_<;>intro h<;>try simp only [h]|((fail_if_success refine Wz.h ?_);first|simp (disch:=omega) only [↓LD,LA,a0A,seval,LSt,rN,rT,rS,hd,Bool.not_false]|(refine And.intro ?_ ?_;omega)|simp only [D.int,D.bool]))
  have hb:c0P ⟨id,ver,time,closed,cancel,defs,nodes,tms,sgs⟩ e=(4,⟨id,ver,time,closed,cancel,defs,nodes,tms,sgs⟩):=by
   unfold c0P;rw [if_neg hlt,if_pos (.inl hm)]
  rw [hb] at hQ
  exact end1 rfl rfl (by kernel_rfl) .f (hQ _ _ rfl rfl)
 have hd:=decide_eq_true hm
 have hnl:e.node.toNat<nodes.length:=by omega
 have hdl:e.node.toNat<defs.length:=by omega
 have hb1:=hn2 _ (a0L hdl)
 have hb2:=hn3 _ (a0L hnl)
 repeat' (with_reducible first|refine Wx.h ?_|refine We.h fun K hK=>?_|refine Wd.h fun K M hK hM=>?_|(refine hK _ _ _ _ ?_;clear hK K;try clear hM M)|(refine hM ?_;clear hM M;try clear hK K)|refine Wb.h fun K hK=>?_|(refine hK _ ?_;clear hK K)|(refine wT ?_ ?_;assumption)|(refine wF ?_ ?_;assumption)|(refine Wy.h ?_ ?_;kernel_rfl)|refine Wq.h ?_ ?_<;>intro h<;>try (exfalso;omega)|refine Wu.h ?_ ?_<;>intro h<;>try simp only [h]|((fail_if_success refine Wz.h ?_);first|simp (disch:=omega) only [↓LD,LA,a0A,seval,LSt,rN,rT,rS,hd,Bool.not_true,g0V,a0h,List.length_set,b0J,c0S,Nn.cs]|(refine And.intro ?_ ?_;omega)|simp only [D.int,D.bool]))
 rotate_left
 ·have hb:c0P ⟨id,ver,time,closed,cancel,defs,nodes,tms,sgs⟩ e=(4,⟨id,ver,time,closed,cancel,defs,nodes,tms,sgs⟩):=by
   unfold c0P;rw [if_neg hlt,if_pos (.inr h)]
  rw [hb] at hQ
  exact end1 rfl rfl (by kernel_rfl) .f (hQ _ _ rfl rfl)
 ·have hb:c0P ⟨id,ver,time,closed,cancel,defs,nodes,tms,sgs⟩ e=(0,⟨id,ver,time,closed,cancel,defs,nodes.set e.node.toNat { gt nodes e.node.toNat with st:=1,tr:=e.n,due:=e.time+(gt defs e.node.toNat).le },tms,sgs⟩):=by
   unfold c0P;rw [if_neg hlt,if_neg]
   intro hh
   rcases hh with hh|hh
   ·exact hh hm
   ·exact hh h
  rw [hb] at hQ
  have e1:(((nodes.flatMap Nn.cs).set (e.node.toNat*4) (.v (.int .i64 1))).set (e.node.toNat*4+1) (.v (.int .i64 e.n))).set (e.node.toNat*4+2) (.v (.int .i64 (e.time+(gt defs e.node.toNat).le)))=(nodes.set e.node.toNat { gt nodes e.node.toNat with st:=1,tr:=e.n,due:=e.time+(gt defs e.node.toNat).le }).flatMap Nn.cs:=by
   have a1:=b0N (cs:=Nn.cs) d0O (j:=0) (x:=.v (.int .i64 1)) (y:={ gt nodes e.node.toNat with st:=1 }) (by omega) hnl rfl
   rw [Nat.add_zero] at a1
   rw [a1]
   rw [b0N (cs:=Nn.cs) d0O (j:=1) (y:={ gt nodes e.node.toNat with st:=1,tr:=e.n }) (by omega) (by rw [List.length_set];exact hnl) (by rw [m0W hnl];try rfl),List.set_set]
   rw [b0N (cs:=Nn.cs) d0O (j:=2) (y:={ gt nodes e.node.toNat with st:=1,tr:=e.n,due:=e.time+(gt defs e.node.toNat).le }) (by omega) (by rw [List.length_set];exact hnl) (by rw [m0W hnl];try rfl),List.set_set]
  rw [e1]
  refine end1 rfl rfl (by kernel_rfl) .f (hQ _ _ rfl ?_)
  simp only [stH,stL,rN,rT,rS,List.length_set]
  rfl
def a0m (s:S12):Int × S12:=if s.cancel=true then (4,s) else (0,{ s with cancel:=true })
theorem t0Z (s:S12):Con Tryz.prog 140 [.pt 0 0] (stH s) fun r H'=>r=D.int (a0m s).1∧H'=stH (a0m s).2:=by
 obtain ⟨id,ver,time,closed,cancel,defs,nodes,tms,sgs⟩:=s
 suffices hh:∀ Q:D→List Row→Prop,(∀ r H',r=D.int (a0m ⟨id,ver,time,closed,cancel,defs,nodes,tms,sgs⟩).1→H'=stH (a0m ⟨id,ver,time,closed,cancel,defs,nodes,tms,sgs⟩).2→Q r H')→Con Tryz.prog 140 [.pt 0 0] (stH ⟨id,ver,time,closed,cancel,defs,nodes,tms,sgs⟩) Q from hh _ fun _ _ h1 h2=>⟨h1,h2⟩
 intro Q hQ
 refine Con.walk good s0D (by simp) ?_
 unfold j0A
 simp only [a0K,stH,stL,rN,rT,rS]
 cases cancel
 ·have hb:a0m ⟨id,ver,time,closed,false,defs,nodes,tms,sgs⟩=(0,⟨id,ver,time,closed,true,defs,nodes,tms,sgs⟩):=rfl
  rw [hb] at hQ
  repeat' (with_reducible first|refine Wx.h ?_|refine Wb.h fun K hK=>?_|(refine hK _ ?_;clear hK K)|(refine wT ?_ ?_;assumption)|(refine wF ?_ ?_;assumption)|(refine Wy.h ?_ ?_;kernel_rfl)|refine Wq.h ?_ ?_<;>intro h<;>try (exfalso;omega)|refine Wu.h ?_ ?_<;>intro h<;>try simp only [h]|((fail_if_success refine Wz.h ?_);first|simp (disch:=omega) only [↓LD,LA,a0A,seval]|(refine And.intro ?_ ?_;omega)|simp only [D.int,D.bool]))
  exact endA rfl rfl (hQ _ _ rfl rfl)
 ·have hb:a0m ⟨id,ver,time,closed,true,defs,nodes,tms,sgs⟩=(4,⟨id,ver,time,closed,true,defs,nodes,tms,sgs⟩):=rfl
  rw [hb] at hQ
  repeat' (with_reducible first|refine Wx.h ?_|refine Wb.h fun K hK=>?_|(refine hK _ ?_;clear hK K)|(refine wT ?_ ?_;assumption)|(refine wF ?_ ?_;assumption)|(refine Wy.h ?_ ?_;kernel_rfl)|refine Wq.h ?_ ?_<;>intro h<;>try (exfalso;omega)|refine Wu.h ?_ ?_<;>intro h<;>try simp only [h]|((fail_if_success refine Wz.h ?_);first|simp (disch:=omega) only [↓LD,LA,a0A,seval]|(refine And.intro ?_ ?_;omega)|simp only [D.int,D.bool]))
  exact endA rfl rfl (hQ _ _ rfl rfl)
theorem e1L {id ver time closed:Int}{cancel:Bool}{defs:List Nd}{nodes:List Nn}{tms:List Tm}{sgs:List Sg}{T:TypeId}{H:List Row} :
  Vw (.box T [D.int id,D.int ver,D.int time,D.int closed,D.bool cancel,.f (fG defs),.sl 1 0 nodes.length,.sl 2 0 tms.length,.sl 3 0 sgs.length] :: rN nodes :: rT tms :: rS sgs :: H) (.pt 0 0) (.rf (S12.cs ⟨id,ver,time,closed,cancel,defs,nodes,tms,sgs⟩)):=by
 refine .pt (fs:=S12.cs ⟨id,ver,time,closed,cancel,defs,nodes,tms,sgs⟩) rfl rfl ?_
 intro i d x hd hx
 rcases i with _|_|_|_|_|_|_|_|_|i
 all_goals (simp [S12.cs] at hd hx;try (subst hd;subst hx))
 all_goals first
  | exact .f
  | exact Vw.sl (xs:=nodes.flatMap Nn.cs) rfl (fun e=>by rw [List.eq_nil_of_length_eq_zero e];try rfl)
  | exact Vw.sl (xs:=tms.flatMap Tm.cs) rfl (fun e=>by rw [List.eq_nil_of_length_eq_zero e];try rfl)
  | exact Vw.sl (xs:=sgs.flatMap Sg.cs) rfl (fun e=>by rw [List.eq_nil_of_length_eq_zero e];try rfl)
instance {id ver time closed:Int}{cancel:Bool}{defs:List Nd}{nodes:List Nn}{tms:List Tm}{sgs:List Sg}{k:Int}{H:List Row}{K:D→List Row→Prop}:Wa (a0R Tryz.prog (.fn 162 []) [.pt 0 0,.f (.v (.int .i64 k))] (.box 65 [.f (.v (.int .i64 id)),.f (.v (.int .i64 ver)),.f (.v (.int .i64 time)),.f (.v (.int .i64 closed)),.f (.v (.bool cancel)),.f (fG defs),.sl 1 0 nodes.length,.sl 2 0 tms.length,.sl 3 0 sgs.length] :: .data 158 (nodes.flatMap Nn.cs) :: .data 180 (tms.flatMap Tm.cs) :: .data 106 (sgs.flatMap Sg.cs) :: H) K)
  (nodes.length≤1000000∧K (.f (.v (.int .i64 (cntL nodes k)))) (.box 65 [.f (.v (.int .i64 id)),.f (.v (.int .i64 ver)),.f (.v (.int .i64 time)),.f (.v (.int .i64 closed)),.f (.v (.bool cancel)),.f (fG defs),.sl 1 0 nodes.length,.sl 2 0 tms.length,.sl 3 0 sgs.length] :: .data 158 (nodes.flatMap Nn.cs) :: .data 180 (tms.flatMap Tm.cs) :: .data 106 (sgs.flatMap Sg.cs) :: H)):=⟨fun h=>by
 refine a0W (i0Y ⟨id,ver,time,closed,cancel,defs,nodes,tms,sgs⟩ k h.1) (.cons e1L (.cons .f .nil)) ?_ ?_
 ·rintro _ _ ⟨rfl,rfl⟩
  exact ⟨.f .v,by simp⟩
 ·rintro _ _ ⟨rfl,rfl⟩
  show K (.f (.v (.int .i64 (cntL nodes k)))) (_++[])
  rw [List.append_nil];exact h.2⟩
instance {id ver time closed:Int}{cancel:Bool}{defs:List Nd}{nodes:List Nn}{tms:List Tm}{sgs:List Sg}{k:Int}{H:List Row}{K:Bool→D→List Row→Prop}:Wa (a0e Tryz.prog (.fn 162 []) [.pt 0 0,.f (.v (.int .i64 k))] (.box 65 [.f (.v (.int .i64 id)),.f (.v (.int .i64 ver)),.f (.v (.int .i64 time)),.f (.v (.int .i64 closed)),.f (.v (.bool cancel)),.f (fG defs),.sl 1 0 nodes.length,.sl 2 0 tms.length,.sl 3 0 sgs.length] :: .data 158 (nodes.flatMap Nn.cs) :: .data 180 (tms.flatMap Tm.cs) :: .data 106 (sgs.flatMap Sg.cs) :: H) K)
  (nodes.length≤1000000∧K false (.f (.v (.int .i64 (cntL nodes k)))) (.box 65 [.f (.v (.int .i64 id)),.f (.v (.int .i64 ver)),.f (.v (.int .i64 time)),.f (.v (.int .i64 closed)),.f (.v (.bool cancel)),.f (fG defs),.sl 1 0 nodes.length,.sl 2 0 tms.length,.sl 3 0 sgs.length] :: .data 158 (nodes.flatMap Nn.cs) :: .data 180 (tms.flatMap Tm.cs) :: .data 106 (sgs.flatMap Sg.cs) :: H)):=⟨fun h=>by
 refine d0V (i0Y ⟨id,ver,time,closed,cancel,defs,nodes,tms,sgs⟩ k h.1) (.cons e1L (.cons .f .nil)) ⟨.f .v,by simp⟩ ?_
 show K false (.f (.v (.int .i64 (cntL nodes k)))) (_++[])
 rw [List.append_nil];exact h.2⟩
def a0n (s:S12)(k:Int):Bool:=if k=9 then decide ((cntL s.nodes 2:Int)=s.nodes.length) else if k=10 then decide ((0:Int)<cntL s.nodes 3) else if k=11 then s.cancel&&decide ((cntL s.nodes 1:Int)=0) else true
theorem q0L (s:S12)(k:Int)(hl:s.nodes.length≤1000000):Con Tryz.prog 141 [.pt 0 0,D.int k] (stH s) fun r H'=>r=D.bool (a0n s k)∧H'=stH s:=by
 obtain ⟨id,ver,time,closed,cancel,defs,nodes,tms,sgs⟩:=s
 suffices hh:∀ Q:D→List Row→Prop,(∀ r H',r=D.bool (a0n ⟨id,ver,time,closed,cancel,defs,nodes,tms,sgs⟩ k)→H'=stH ⟨id,ver,time,closed,cancel,defs,nodes,tms,sgs⟩→Q r H')→Con Tryz.prog 141 [.pt 0 0,D.int k] (stH ⟨id,ver,time,closed,cancel,defs,nodes,tms,sgs⟩) Q from hh _ fun _ _ h1 h2=>⟨h1,h2⟩
 intro Q hQ
 cases cancel
 all_goals
  refine Con.walk good n0d (by simp) ?_
  unfold g0x
  simp only [a0K,stH,stL,rN,rT,rS]
  repeat' (with_reducible first|refine Wx.h ?_|refine We.h fun K hK=>?_|refine Wd.h fun K M hK hM=>?_|(refine hK _ _ _ _ ?_;clear hK K;try clear hM M)|(refine hM ?_;clear hM M;try clear hK K)|refine Wb.h fun K hK=>?_|(refine hK _ ?_;clear hK K)|(refine wT ?_ ?_;assumption)|(refine wF ?_ ?_;assumption)|(refine Wy.h ?_ ?_;kernel_rfl)|refine Wq.h ?_ ?_<;>intro h<;>try (exfalso;omega)|refine Wu.h ?_ ?_<;>intro h<;>try simp only [h]|((fail_if_success refine Wz.h ?_);first|simp (disch:=omega) only [↓LD,LA,a0A,seval]|(refine And.intro ?_ ?_;omega)|simp only [D.int,D.bool]))
  all_goals (refine end1 rfl rfl (by kernel_rfl) .f (hQ _ _ (congrArg D.bool ?_) rfl);simp_all [a0n])
instance {id ver time closed:Int}{cancel:Bool}{defs:List Nd}{nodes:List Nn}{tms:List Tm}{sgs:List Sg}{nm:Bs}{H:List Row}{K:D→List Row→Prop}:Wa (a0R Tryz.prog (.fn 161 []) [.pt 0 0,.f (.v (.string (BB nm)))] (.box 65 [.f (.v (.int .i64 id)),.f (.v (.int .i64 ver)),.f (.v (.int .i64 time)),.f (.v (.int .i64 closed)),.f (.v (.bool cancel)),.f (fG defs),.sl 1 0 nodes.length,.sl 2 0 tms.length,.sl 3 0 sgs.length] :: .data 158 (nodes.flatMap Nn.cs) :: .data 180 (tms.flatMap Tm.cs) :: .data 106 (sgs.flatMap Sg.cs) :: H) K)
  (tms.length≤1000000∧K (.f (.v (.int .i64 (tmI tms nm)))) (.box 65 [.f (.v (.int .i64 id)),.f (.v (.int .i64 ver)),.f (.v (.int .i64 time)),.f (.v (.int .i64 closed)),.f (.v (.bool cancel)),.f (fG defs),.sl 1 0 nodes.length,.sl 2 0 tms.length,.sl 3 0 sgs.length] :: .data 158 (nodes.flatMap Nn.cs) :: .data 180 (tms.flatMap Tm.cs) :: .data 106 (sgs.flatMap Sg.cs) :: H)):=⟨fun h=>by
 refine a0W (x0q ⟨id,ver,time,closed,cancel,defs,nodes,tms,sgs⟩ nm h.1) (.cons e1L (.cons .f .nil)) ?_ ?_
 ·rintro _ _ ⟨rfl,rfl⟩
  exact ⟨.f .v,by simp⟩
 ·rintro _ _ ⟨rfl,rfl⟩
  show K (.f (.v (.int .i64 (tmI tms nm)))) (_++[])
  rw [List.append_nil];exact h.2⟩
theorem g1B {id ver time closed:Int}{cancel:Bool}{defs:List Nd}{nodes:List Nn}{tms:List Tm}{sgs:List Sg}{R0:Row}{H:List Row}:Vw (R0 :: .data 158 (nodes.flatMap Nn.cs) :: .data 180 (tms.flatMap Tm.cs) :: .data 106 (sgs.flatMap Sg.cs) :: H) (.ag [.f (.v (.int .i64 id)),.f (.v (.int .i64 ver)),.f (.v (.int .i64 time)),.f (.v (.int .i64 closed)),.f (.v (.bool cancel)),.f (fG defs),.sl 1 0 nodes.length,.sl 2 0 tms.length,.sl 3 0 sgs.length]) (stD ⟨id,ver,time,closed,cancel,defs,nodes,tms,sgs⟩) :=
 .ags (.cons .f (.cons .f (.cons .f (.cons .f (.cons .f (.cons .f (.cons (.sl (xs:=nodes.flatMap Nn.cs) rfl (fun e=>by rw [List.eq_nil_of_length_eq_zero e];try rfl)) (.cons (.sl (xs:=tms.flatMap Tm.cs) rfl (fun e=>by rw [List.eq_nil_of_length_eq_zero e];try rfl)) (.cons (.sl (xs:=sgs.flatMap Sg.cs) rfl (fun e=>by rw [List.eq_nil_of_length_eq_zero e];try rfl)) .nil)))))))))
instance {id ver time closed:Int}{cancel:Bool}{defs:List Nd}{nodes:List Nn}{tms:List Tm}{sgs:List Sg}{nm:Bs}{R0:Row}{H:List Row}{K:Bool→D→List Row→Prop}:Wa (a0e Tryz.prog (.fn 65 []) [.ag [.f (.v (.int .i64 id)),.f (.v (.int .i64 ver)),.f (.v (.int .i64 time)),.f (.v (.int .i64 closed)),.f (.v (.bool cancel)),.f (fG defs),.sl 1 0 nodes.length,.sl 2 0 tms.length,.sl 3 0 sgs.length],.f (.v (.string (BB nm)))] (R0 :: .data 158 (nodes.flatMap Nn.cs) :: .data 180 (tms.flatMap Tm.cs) :: .data 106 (sgs.flatMap Sg.cs) :: H) K)
  (sgs.length≤1000000∧K false (.f (.v (.bool (c0i sgs nm)))) (R0 :: .data 158 (nodes.flatMap Nn.cs) :: .data 180 (tms.flatMap Tm.cs) :: .data 106 (sgs.flatMap Sg.cs) :: H)):=⟨fun h=>by
 refine d0V (w0C ⟨id,ver,time,closed,cancel,defs,nodes,tms,sgs⟩ nm h.1) (.cons g1B (.cons .f .nil)) ⟨.f .v,by simp⟩ ?_
 show K false (.f (.v (.bool (c0i sgs nm)))) (_++[])
 rw [List.append_nil];exact h.2⟩
theorem z0S {α:Type}(p:α→Bool):∀ (i:Nat) (l:List α),idxF p i l<i+l.length∧(idxF p i l<0→idxF p i l = -1)∧(0≤idxF p i l→(i:Int)≤idxF p i l)
 | i,[]=>by simp [idxF];omega
 | i,x :: l=>by
  have:=z0S p (i+1) l
  simp only [idxF,List.length_cons]
  split<;>omega
theorem u0X (l:List Tm)(nm:Bs):tmI l nm<l.length:=by have:=(z0S (fun x:Tm=>decide (x.name=nm)) 0 l).1;unfold tmI;omega
def endL (s:S12)(e:Ev):Int × S12 :=
 if (s.nodes.length:Int)≤e.node∨(s.defs.length:Int)≤e.node then (1,s)
 else if (gt s.nodes e.node.toNat).st≠1∨e.n≠(gt s.nodes e.node.toNat).tr then (4,s)
 else if e.ty=3 then (0,{ s with nodes:=s.nodes.set e.node.toNat { gt s.nodes e.node.toNat with st:=2,due:=0,data:=e.data } })
 else if (gt s.nodes e.node.toNat).tr=(gt s.defs e.node.toNat).tr then (0,{ s with nodes:=s.nodes.set e.node.toNat { gt s.nodes e.node.toNat with st:=3,due:=0 } })
 else (0,{ s with nodes:=s.nodes.set e.node.toNat { gt s.nodes e.node.toNat with st:=0,due:=0 } })
set_option maxRecDepth 100000 in
theorem u0I (s:S12)(e:Ev)(h0:0≤e.node)(hl:s.nodes.length≤1000000)(hd:e.data.length≤1000000)(hdl:s.defs.length≤1000000) :
  Con Tryz.prog 136 [.pt 0 0,evD e] (stH s) fun r H'=>r=D.int (endL s e).1∧H'=stH (endL s e).2:=by
 obtain ⟨id,ver,time,closed,cancel,defs,nodes,tms,sgs⟩:=s
 dsimp only at hl hd
 suffices hh:∀ Q:D→List Row→Prop,(∀ r H',r=D.int (endL ⟨id,ver,time,closed,cancel,defs,nodes,tms,sgs⟩ e).1→H'=stH (endL ⟨id,ver,time,closed,cancel,defs,nodes,tms,sgs⟩ e).2→Q r H')→Con Tryz.prog 136 [.pt 0 0,evD e] (stH ⟨id,ver,time,closed,cancel,defs,nodes,tms,sgs⟩) Q from hh _ fun _ _ h1 h2=>⟨h1,h2⟩
 intro Q hQ
 refine Con.walk good z0R (by simp) ?_
 unfold t0u
 simp only [a0K,evD,stH,stL,rN,rT,rS]
 repeat' (with_reducible first|refine Wx.h ?_|refine We.h fun K hK=>?_|refine Wd.h fun K M hK hM=>?_|(refine hK _ _ _ _ ?_;clear hK K;try clear hM M)|(refine hM ?_;clear hM M;try clear hK K)|refine Wb.h fun K hK=>?_|(refine hK _ ?_;clear hK K)|(refine wT ?_ ?_;assumption)|(refine wF ?_ ?_;assumption)|(refine Wy.h ?_ ?_;kernel_rfl)|refine Wq.h ?_ ?_<;>intro h<;>try (exfalso;omega)|refine Wu.h ?_ ?_<;>intro h<;>try simp only [h]|((fail_if_success refine Wz.h ?_);first|simp (disch:=omega) only [↓LD,LA,a0A,seval,LSt,b0u,g0V,e1T,e1n,a0h,List.length_set,List.getElem?_set_ne,b0O,c0S,Nn.cs]|(refine And.intro ?_ ?_;omega)|simp only [D.int,D.bool]))
 ·have hb:endL ⟨id,ver,time,closed,cancel,defs,nodes,tms,sgs⟩ e=(1,⟨id,ver,time,closed,cancel,defs,nodes,tms,sgs⟩):=by
   unfold endL;rw [if_pos];dsimp only;omega
  rw [hb] at hQ
  exact end1 rfl rfl (by kernel_rfl) .f (hQ _ _ rfl rfl)
 all_goals have hlo:=(show ¬ ((nodes.length:Int)≤e.node∨(defs.length:Int)≤e.node) by omega)
 ·have hb:endL ⟨id,ver,time,closed,cancel,defs,nodes,tms,sgs⟩ e=(0,⟨id,ver,time,closed,cancel,defs,nodes.set e.node.toNat { gt nodes e.node.toNat with st:=2,due:=0,data:=e.data },tms,sgs⟩):=by
   unfold endL;rw [if_neg hlo,if_neg (by simp_all),if_pos (by assumption)]
  rw [hb] at hQ
  have hnl:e.node.toNat<nodes.length:=by omega
  have e1:((((nodes.flatMap Nn.cs).set (e.node.toNat*4+2) (.v (.int .i64 0))).set (e.node.toNat*4) (.v (.int .i64 2))).set (e.node.toNat*4+3) (fY e.data))=(nodes.set e.node.toNat { gt nodes e.node.toNat with st:=2,due:=0,data:=e.data }).flatMap Nn.cs:=by
   have a1:=b0N (cs:=Nn.cs) d0O (j:=2) (x:=.v (.int .i64 0)) (y:={ gt nodes e.node.toNat with due:=0 }) (by omega) hnl rfl
   rw [a1]
   have a2:=b0N (cs:=Nn.cs) d0O (j:=0) (l:=nodes.set e.node.toNat { gt nodes e.node.toNat with due:=0 }) (k:=e.node.toNat) (x:=.v (.int .i64 2)) (y:={ gt nodes e.node.toNat with due:=0,st:=2 }) (by omega) (by rw [List.length_set];exact hnl) (by rw [m0W hnl];try rfl)
   rw [Nat.add_zero] at a2
   rw [a2,List.set_set]
   rw [b0N (cs:=Nn.cs) d0O (j:=3) (y:={ gt nodes e.node.toNat with due:=0,st:=2,data:=e.data }) (by omega) (by rw [List.length_set];exact hnl) (by rw [m0W hnl];try rfl),List.set_set]
  rw [e1]
  refine end1 rfl rfl (by kernel_rfl) .f (hQ _ _ rfl ?_)
  simp only [stH,stL,rN,rT,rS,List.length_set]
  rfl
 ·have hb:endL ⟨id,ver,time,closed,cancel,defs,nodes,tms,sgs⟩ e=(0,⟨id,ver,time,closed,cancel,defs,nodes.set e.node.toNat { gt nodes e.node.toNat with st:=3,due:=0 },tms,sgs⟩):=by
   unfold endL;rw [if_neg hlo,if_neg (by simp_all),if_neg (by assumption),if_pos (by assumption)]
  rw [hb] at hQ
  have hnl:e.node.toNat<nodes.length:=by omega
  have e1:(((nodes.flatMap Nn.cs).set (e.node.toNat*4+2) (.v (.int .i64 0))).set (e.node.toNat*4) (.v (.int .i64 3)))=(nodes.set e.node.toNat { gt nodes e.node.toNat with st:=3,due:=0 }).flatMap Nn.cs:=by
   have a1:=b0N (cs:=Nn.cs) d0O (j:=2) (x:=.v (.int .i64 0)) (y:={ gt nodes e.node.toNat with due:=0 }) (by omega) hnl rfl
   rw [a1]
   have a2:=b0N (cs:=Nn.cs) d0O (j:=0) (l:=nodes.set e.node.toNat { gt nodes e.node.toNat with due:=0 }) (k:=e.node.toNat) (x:=.v (.int .i64 3)) (y:={ gt nodes e.node.toNat with due:=0,st:=3 }) (by omega) (by rw [List.length_set];exact hnl) (by rw [m0W hnl];try rfl)
   rw [Nat.add_zero] at a2
   rw [a2,List.set_set]
  rw [e1]
  refine end1 rfl rfl (by kernel_rfl) .f (hQ _ _ rfl ?_)
  simp only [stH,stL,rN,rT,rS,List.length_set]
  rfl
 ·have hb:endL ⟨id,ver,time,closed,cancel,defs,nodes,tms,sgs⟩ e=(0,⟨id,ver,time,closed,cancel,defs,nodes.set e.node.toNat { gt nodes e.node.toNat with st:=0,due:=0 },tms,sgs⟩):=by
   unfold endL;rw [if_neg hlo,if_neg (by simp_all),if_neg (by assumption),if_neg (by assumption)]
  rw [hb] at hQ
  have hnl:e.node.toNat<nodes.length:=by omega
  have e1:(((nodes.flatMap Nn.cs).set (e.node.toNat*4+2) (.v (.int .i64 0))).set (e.node.toNat*4) (.v (.int .i64 0)))=(nodes.set e.node.toNat { gt nodes e.node.toNat with st:=0,due:=0 }).flatMap Nn.cs:=by
   have a1:=b0N (cs:=Nn.cs) d0O (j:=2) (x:=.v (.int .i64 0)) (y:={ gt nodes e.node.toNat with due:=0 }) (by omega) hnl rfl
   rw [a1]
   have a2:=b0N (cs:=Nn.cs) d0O (j:=0) (l:=nodes.set e.node.toNat { gt nodes e.node.toNat with due:=0 }) (k:=e.node.toNat) (x:=.v (.int .i64 0)) (y:={ gt nodes e.node.toNat with due:=0,st:=0 }) (by omega) (by rw [List.length_set];exact hnl) (by rw [m0W hnl];try rfl)
   rw [Nat.add_zero] at a2
   rw [a2,List.set_set]
  rw [e1]
  refine end1 rfl rfl (by kernel_rfl) .f (hQ _ _ rfl ?_)
  simp only [stH,stL,rN,rT,rS,List.length_set]
  rfl
 ·have hb:endL ⟨id,ver,time,closed,cancel,defs,nodes,tms,sgs⟩ e=(4,⟨id,ver,time,closed,cancel,defs,nodes,tms,sgs⟩):=by
   unfold endL;rw [if_neg hlo,if_pos (.inr (by assumption))]
  rw [hb] at hQ
  exact end1 rfl rfl (by kernel_rfl) .f (hQ _ _ rfl rfl)
 ·have hb:endL ⟨id,ver,time,closed,cancel,defs,nodes,tms,sgs⟩ e=(4,⟨id,ver,time,closed,cancel,defs,nodes,tms,sgs⟩):=by
   unfold endL;rw [if_neg hlo,if_pos (.inl (by assumption))]
  rw [hb] at hQ
  exact end1 rfl rfl (by kernel_rfl) .f (hQ _ _ rfl rfl)
def c0R (s:S12)(e:Ev):Int × S12 :=
 if tmI s.tms e.name<0 then (4,s)
 else if (gt s.tms (tmI s.tms e.name).toNat).fired=true∨e.time<(gt s.tms (tmI s.tms e.name).toNat).due then (4,s)
 else (0,{ s with tms:=s.tms.set (tmI s.tms e.name).toNat { gt s.tms (tmI s.tms e.name).toNat with fired:=true } })
set_option maxRecDepth 100000 in
theorem a1G (s:S12)(e:Ev)(hl:s.tms.length≤1000000) :
  Con Tryz.prog 138 [.pt 0 0,evD e] (stH s) fun r H'=>r=D.int (c0R s e).1∧H'=stH (c0R s e).2:=by
 obtain ⟨id,ver,time,closed,cancel,defs,nodes,tms,sgs⟩:=s
 dsimp only at hl
 suffices hh:∀ Q:D→List Row→Prop,(∀ r H',r=D.int (c0R ⟨id,ver,time,closed,cancel,defs,nodes,tms,sgs⟩ e).1→H'=stH (c0R ⟨id,ver,time,closed,cancel,defs,nodes,tms,sgs⟩ e).2→Q r H')→Con Tryz.prog 138 [.pt 0 0,evD e] (stH ⟨id,ver,time,closed,cancel,defs,nodes,tms,sgs⟩) Q from hh _ fun _ _ h1 h2=>⟨h1,h2⟩
 intro Q hQ
 refine Con.walk good x0N (by simp) ?_
 unfold r0U
 simp only [a0K,evD,stH,stL,rN,rT,rS]
 have hlt:=u0X tms e.name
 repeat' (with_reducible first|refine Wx.h ?_|refine We.h fun K hK=>?_|refine Wd.h fun K M hK hM=>?_|(refine hK _ _ _ _ ?_;clear hK K;try clear hM M)|(refine hM ?_;clear hM M;try clear hK K)|refine Wb.h fun K hK=>?_|(refine hK _ ?_;clear hK K)|(refine wT ?_ ?_;assumption)|(refine wF ?_ ?_;assumption)|(refine Wy.h ?_ ?_;kernel_rfl)|refine Wq.h ?_ ?_<;>intro h<;>try (exfalso;omega)|refine Wu.h ?_ ?_<;>intro h<;>try simp only [h]|((fail_if_success refine Wz.h ?_);first|simp (disch:=omega) only [↓LD,LA,a0A,seval,LSt,f0y,i0v,y0J,e0n,List.length_set,List.getElem?_set_ne,Tm.cs]|(refine And.intro ?_ ?_;omega)|simp only [D.int,D.bool]))
 ·have hb:c0R ⟨id,ver,time,closed,cancel,defs,nodes,tms,sgs⟩ e=(4,⟨id,ver,time,closed,cancel,defs,nodes,tms,sgs⟩):=by
   unfold c0R;rw [if_pos (by assumption)]
  rw [hb] at hQ
  exact end1 rfl rfl (by kernel_rfl) .f (hQ _ _ rfl rfl)
 ·have hb:c0R ⟨id,ver,time,closed,cancel,defs,nodes,tms,sgs⟩ e=(4,⟨id,ver,time,closed,cancel,defs,nodes,tms,sgs⟩):=by
   unfold c0R;rw [if_neg (by assumption),if_pos (.inl (by assumption))]
  rw [hb] at hQ
  exact end1 rfl rfl (by kernel_rfl) .f (hQ _ _ rfl rfl)
 ·have hb:c0R ⟨id,ver,time,closed,cancel,defs,nodes,tms,sgs⟩ e=(4,⟨id,ver,time,closed,cancel,defs,nodes,tms,sgs⟩):=by
   unfold c0R;rw [if_neg (by assumption),if_pos (.inr (by assumption))]
  rw [hb] at hQ
  exact end1 rfl rfl (by kernel_rfl) .f (hQ _ _ rfl rfl)
 ·have hb:c0R ⟨id,ver,time,closed,cancel,defs,nodes,tms,sgs⟩ e=(0,⟨id,ver,time,closed,cancel,defs,nodes,tms.set (tmI tms e.name).toNat { gt tms (tmI tms e.name).toNat with fired:=true },sgs⟩):=by
   unfold c0R;rw [if_neg (by assumption),if_neg (by simp_all)]
  rw [hb] at hQ
  have hnl:(tmI tms e.name).toNat<tms.length:=by omega
  rw [b0N (cs:=Tm.cs) s0H (j:=2) (y:={ gt tms (tmI tms e.name).toNat with fired:=true }) (by omega) hnl rfl]
  refine end1 rfl rfl (by kernel_rfl) .f (hQ _ _ rfl ?_)
  simp only [stH,stL,rN,rT,rS,List.length_set]
  rfl
instance {ds:List Nd}{H:List Row}{K:D→List Row→Prop}[hf:Kn (Fit ds)]:Wa (a0R Tryz.prog (.fn 158 []) [.f (fG ds)] H K) (K (.f (.v (.int .i64 (a0p ds)))) H) :=
 ⟨fun h=>a0C (h0v ds hf.h) rfl rfl rfl h⟩
def stM:Nat→S12→List Row
 | 0,s=>stH s
 | 1,s=>[.box 65 (stL 4 2 3 s),.dead,rT s.tms,rS s.sgs,rN s.nodes]
 | 2,s=>[.box 65 (stL 1 4 3 s),rN s.nodes,.dead,rS s.sgs,rT s.tms]
 | _,s=>[.box 65 (stL 1 2 4 s),rN s.nodes,rT s.tms,.dead,rS s.sgs]
def armL (s:S12)(e:Ev):Int × S12 :=
 if 0≤tmI s.tms e.name then (13,s) else if 8≤s.tms.length then (4,s)
 else (0,{ s with tms:=s.tms++[(⟨e.name,e.time+e.n,false⟩:Tm)] })
set_option maxRecDepth 100000 in
theorem b1u (s:S12)(e:Ev)(hl:s.tms.length≤1000000)(ht:0≤e.time∧e.time≤1099511627776)(hn:0≤e.n∧e.n≤1048576) :
  Con Tryz.prog 137 [.pt 0 0,evD e] (stH s) fun r H'=>r=D.int (armL s e).1∧(H'=stH (armL s e).2∨H'=stM 2 (armL s e).2):=by
 obtain ⟨id,ver,time,closed,cancel,defs,nodes,tms,sgs⟩:=s
 dsimp only at hl
 suffices hh:∀ Q:D→List Row→Prop,(∀ r H',r=D.int (armL ⟨id,ver,time,closed,cancel,defs,nodes,tms,sgs⟩ e).1→(H'=stH (armL ⟨id,ver,time,closed,cancel,defs,nodes,tms,sgs⟩ e).2∨H'=stM 2 (armL ⟨id,ver,time,closed,cancel,defs,nodes,tms,sgs⟩ e).2)→Q r H')→Con Tryz.prog 137 [.pt 0 0,evD e] (stH ⟨id,ver,time,closed,cancel,defs,nodes,tms,sgs⟩) Q from hh _ fun _ _ h1 h2=>⟨h1,h2⟩
 intro Q hQ
 refine Con.walk good a1V (by simp) ?_
 unfold t0z
 simp only [a0K,evD,stH,stL,rN,rT,rS]
 repeat' (with_reducible first|refine Wx.h ?_|refine We.h fun K hK=>?_|refine Wd.h fun K M hK hM=>?_|(refine hK _ _ _ _ ?_;clear hK K;try clear hM M)|(refine hM ?_;clear hM M;try clear hK K)|refine Wb.h fun K hK=>?_|(refine hK _ ?_;clear hK K)|(refine wT ?_ ?_;assumption)|(refine wF ?_ ?_;assumption)|(refine Wy.h ?_ ?_;kernel_rfl)|refine Wq.h ?_ ?_<;>intro h<;>try (exfalso;omega)|refine Wu.h ?_ ?_<;>intro h<;>try simp only [h]|((fail_if_success refine Wz.h ?_);first|simp (disch:=omega) only [↓LD,LA,a0A,seval,LSt,e0n]|(refine And.intro ?_ ?_;omega)|simp only [D.int,D.bool]))
 ·have hb:armL ⟨id,ver,time,closed,cancel,defs,nodes,tms,sgs⟩ e=(13,⟨id,ver,time,closed,cancel,defs,nodes,tms,sgs⟩):=by
   unfold armL;rw [if_pos (by assumption)]
  rw [hb] at hQ
  exact end1 rfl rfl (by kernel_rfl) .f (hQ _ _ rfl (.inl rfl))
 ·have hb:armL ⟨id,ver,time,closed,cancel,defs,nodes,tms,sgs⟩ e=(4,⟨id,ver,time,closed,cancel,defs,nodes,tms,sgs⟩):=by
   unfold armL;rw [if_neg (by assumption),if_pos (show 8≤tms.length by omega)]
  rw [hb] at hQ
  exact end1 rfl rfl (by kernel_rfl) .f (hQ _ _ rfl (.inl rfl))
 ·have hb:armL ⟨id,ver,time,closed,cancel,defs,nodes,tms,sgs⟩ e=(0,⟨id,ver,time,closed,cancel,defs,nodes,tms++[(⟨e.name,e.time+e.n,false⟩:Tm)],sgs⟩):=by
   unfold armL;rw [if_neg (by assumption),if_neg (show ¬ 8≤tms.length by omega)]
  rw [hb] at hQ
  have e1:tms.flatMap Tm.cs++[F.v (.string (BB e.name)),.v (.int .i64 (e.time+e.n)),.v (.bool false)]=(tms++[(⟨e.name,e.time+e.n,false⟩:Tm)]).flatMap Tm.cs:=by simp [Tm.cs]
  have e2:tms.length+1=(tms++[(⟨e.name,e.time+e.n,false⟩:Tm)]).length:=by simp
  rw [e1,e2]
  exact endG rfl rfl (ef:=⟨D.int 0,[(0,.box 65 (stL 1 4 3 ⟨id,ver,time,closed,cancel,defs,nodes,tms++[(⟨e.name,e.time+e.n,false⟩:Tm)],sgs⟩)),(1,rN nodes),(2,.dead),(3,rS sgs)],[rT (tms++[(⟨e.name,e.time+e.n,false⟩:Tm)])]⟩) (by kernel_rfl) (hQ _ _ rfl (.inr rfl))
def a0b (s:S12)(e:Ev):Int × S12 :=
 if c0i s.sgs e.name=true then (13,s) else (0,{ s with sgs:=s.sgs++[(⟨e.name,e.id,e.data⟩:Sg)] })
set_option maxRecDepth 100000 in
theorem t0H (s:S12)(e:Ev)(hl:s.sgs.length≤1000000)(hd:e.data.length≤1000000) :
  Con Tryz.prog 139 [.pt 0 0,evD e] (stH s) fun r H'=>r=D.int (a0b s e).1∧(H'=stH (a0b s e).2∨H'=stM 3 (a0b s e).2):=by
 obtain ⟨id,ver,time,closed,cancel,defs,nodes,tms,sgs⟩:=s
 dsimp only at hl
 suffices hh:∀ Q:D→List Row→Prop,(∀ r H',r=D.int (a0b ⟨id,ver,time,closed,cancel,defs,nodes,tms,sgs⟩ e).1→(H'=stH (a0b ⟨id,ver,time,closed,cancel,defs,nodes,tms,sgs⟩ e).2∨H'=stM 3 (a0b ⟨id,ver,time,closed,cancel,defs,nodes,tms,sgs⟩ e).2)→Q r H')→Con Tryz.prog 139 [.pt 0 0,evD e] (stH ⟨id,ver,time,closed,cancel,defs,nodes,tms,sgs⟩) Q from hh _ fun _ _ h1 h2=>⟨h1,h2⟩
 intro Q hQ
 refine Con.walk good q0U (by simp) ?_
 unfold j0o
 simp only [a0K,evD,stH,stL,rN,rT,rS]
 repeat' (with_reducible first|refine Wx.h ?_|refine We.h fun K hK=>?_|refine Wd.h fun K M hK hM=>?_|(refine hK _ _ _ _ ?_;clear hK K;try clear hM M)|(refine hM ?_;clear hM M;try clear hK K)|refine Wb.h fun K hK=>?_|(refine hK _ ?_;clear hK K)|(refine wT ?_ ?_;assumption)|(refine wF ?_ ?_;assumption)|(refine Wy.h ?_ ?_;kernel_rfl)|refine Wq.h ?_ ?_<;>intro h<;>try (exfalso;omega)|refine Wu.h ?_ ?_<;>intro h<;>try simp only [h]|((fail_if_success refine Wz.h ?_);first|simp (disch:=omega) only [↓LD,LA,a0A,seval,LSt,s0O]|(refine And.intro ?_ ?_;omega)|simp only [D.int,D.bool]))
 ·have hb:a0b ⟨id,ver,time,closed,cancel,defs,nodes,tms,sgs⟩ e=(13,⟨id,ver,time,closed,cancel,defs,nodes,tms,sgs⟩):=by
   unfold a0b;rw [if_pos (by assumption)]
  rw [hb] at hQ
  exact end1 rfl rfl (by kernel_rfl) .f (hQ _ _ rfl (.inl rfl))
 ·have hb:a0b ⟨id,ver,time,closed,cancel,defs,nodes,tms,sgs⟩ e=(0,⟨id,ver,time,closed,cancel,defs,nodes,tms,sgs++[(⟨e.name,e.id,e.data⟩:Sg)]⟩):=by
   unfold a0b;rw [if_neg (by simp_all)]
  rw [hb] at hQ
  have e1:sgs.flatMap Sg.cs++[F.v (.string (BB e.name)),.v (.int .i64 e.id),fY e.data]=(sgs++[(⟨e.name,e.id,e.data⟩:Sg)]).flatMap Sg.cs:=by simp [Sg.cs]
  have e2:sgs.length+1=(sgs++[(⟨e.name,e.id,e.data⟩:Sg)]).length:=by simp
  rw [e1,e2]
  exact endG rfl rfl (ef:=⟨D.int 0,[(0,.box 65 (stL 1 2 4 ⟨id,ver,time,closed,cancel,defs,nodes,tms,sgs++[(⟨e.name,e.id,e.data⟩:Sg)]⟩)),(1,rN nodes),(2,rT tms),(3,.dead)],[rS (sgs++[(⟨e.name,e.id,e.data⟩:Sg)])]⟩) (by kernel_rfl) (hQ _ _ rfl (.inr rfl))
def nd0:Nn:=⟨0,0,0,[]⟩
theorem f1P (n:Nat):∀ (i:Nat) (x y:F),((List.range (n*4)).map (fun j=>[F.v (.int .i64 0),F.v (.int .i64 0),F.v (.int .i64 0),F.v (.slice none 0 0)].getD (j % 4) (.v Go.undef)))[i]?=some x →
  ((List.replicate n nd0).flatMap Nn.cs)[i]?=some y→x=y∨(x = .v (.slice none 0 0)∧y = .s [] 0):=by
 intro i x y hx hy
 have hi:i<n*4:=by have:=(List.getElem?_eq_some_iff.1 hx).1;simpa using this
 rw [List.getElem?_map,List.getElem?_range hi] at hx
 obtain ⟨k,j,rfl,hj⟩:∃ k j,i=k*4+j∧j<4:=⟨i / 4,i % 4,by omega,by omega⟩
 have hk:k<(List.replicate n nd0).length:=by rw [List.length_replicate];omega
 rw [a0s d0O hk hj,show gt (List.replicate n nd0) k=nd0 by rw [b0R hk];simp] at hy
 rw [Option.map_some,show (k*4+j) % 4=j by omega] at hx
 rcases j with _|_|_|_|j
 all_goals (simp [nd0,Nn.cs] at hx hy;try (subst hx;subst hy;first|exact .inl rfl|exact .inr ⟨rfl,rfl⟩))
def c0n (s:S12)(e:Ev):Int × S12 :=
 if a0p e.defs=0 then (0,{ s with defs:=e.defs,nodes:=List.replicate e.defs.length nd0 }) else (1,s)
set_option maxRecDepth 100000 in
theorem x0B (s:S12)(e:Ev)(hf:Fit e.defs)(hd:e.data.length≤1000000) :
  Con Tryz.prog 134 [.pt 0 0,evD e] (stH s) fun r H'=>r=D.int (c0n s e).1∧(H'=stH (c0n s e).2∨H'=stM 1 (c0n s e).2):=by
 obtain ⟨id,ver,time,closed,cancel,defs,nodes,tms,sgs⟩:=s
 suffices hh:∀ Q:D→List Row→Prop,(∀ r H',r=D.int (c0n ⟨id,ver,time,closed,cancel,defs,nodes,tms,sgs⟩ e).1→(H'=stH (c0n ⟨id,ver,time,closed,cancel,defs,nodes,tms,sgs⟩ e).2∨H'=stM 1 (c0n ⟨id,ver,time,closed,cancel,defs,nodes,tms,sgs⟩ e).2)→Q r H')→Con Tryz.prog 134 [.pt 0 0,evD e] (stH ⟨id,ver,time,closed,cancel,defs,nodes,tms,sgs⟩) Q from hh _ fun _ _ h1 h2=>⟨h1,h2⟩
 intro Q hQ
 refine Con.walk good s0k (by simp) ?_
 unfold m0B
 simp only [a0K,evD,stH,stL,rN,rT,rS]
 haveI:Kn (Fit e.defs):=⟨hf⟩
 repeat' (with_reducible first|refine Wx.h ?_|refine We.h fun K hK=>?_|refine Wd.h fun K M hK hM=>?_|(refine hK _ _ _ _ ?_;clear hK K;try clear hM M)|(refine hM ?_;clear hM M;try clear hK K)|refine Wb.h fun K hK=>?_|(refine hK _ ?_;clear hK K)|(refine wT ?_ ?_;assumption)|(refine wF ?_ ?_;assumption)|(refine Wy.h ?_ ?_;kernel_rfl)|refine Wq.h ?_ ?_<;>intro h<;>try (exfalso;omega)|refine Wu.h ?_ ?_<;>intro h<;>try simp only [h]|((fail_if_success refine Wz.h ?_);first|simp (disch:=omega) only [↓LD,LA,a0A,seval,LSt]|(refine And.intro ?_ ?_;omega)|simp only [D.int,D.bool]))
 ·refine ⟨⟨fun d hd'=>hf.2 d hd',by have:=hf.1;omega,hd⟩,?_⟩
  have hf1:=hf.1
  repeat' (with_reducible first|refine Wa.h ?_|refine Ws.h ?_|refine We.h fun K hK=>?_|refine Wd.h fun K M hK hM=>?_|(refine hK _ _ _ _ ?_;clear hK K;try clear hM M)|(refine hM ?_;clear hM M;try clear hK K)|refine Wb.h fun K hK=>?_|(refine hK _ ?_;clear hK K)|(refine wT ?_ ?_;assumption)|(refine wF ?_ ?_;assumption)|(refine Wy.h ?_ ?_;kernel_rfl)|refine Wq.h ?_ ?_<;>intro h<;>try (exfalso;omega)|refine Wu.h ?_ ?_<;>intro h<;>try simp only [h]|((fail_if_success refine Wz.h ?_);first|simp (disch:=omega) only [↓LD,LA,a0A,seval,LSt,evD]|(refine And.intro ?_ ?_;omega)|simp only [D.int,D.bool]))
  refine HS.view (View.wkd 5 ((List.replicate e.defs.length nd0).flatMap Nn.cs) rfl (by rw [List.length_map,List.length_range,a0h,List.length_replicate]) (f1P _)) ?_
  refine HS.view (View.shed 1 rfl) ?_
  repeat' (with_reducible first|refine Wx.h ?_|refine Wb.h fun K hK=>?_|(refine hK _ ?_;clear hK K)|(refine wT ?_ ?_;assumption)|(refine wF ?_ ?_;assumption)|(refine Wy.h ?_ ?_;kernel_rfl)|refine Wq.h ?_ ?_<;>intro h<;>try (exfalso;omega)|refine Wu.h ?_ ?_<;>intro h<;>try simp only [h]|((fail_if_success refine Wz.h ?_);first|simp (disch:=omega) only [↓LD,LA,a0A,seval]|(refine And.intro ?_ ?_;omega)|simp only [D.int,D.bool]))
  have hb:c0n ⟨id,ver,time,closed,cancel,defs,nodes,tms,sgs⟩ e=(0,⟨id,ver,time,closed,cancel,e.defs,List.replicate e.defs.length nd0,tms,sgs⟩):=by
   unfold c0n;rw [if_pos (by assumption)]
  rw [hb] at hQ
  have hrl:(List.replicate e.defs.length nd0).length=e.defs.length:=by simp
  generalize List.replicate e.defs.length nd0=ns at hQ hrl ⊢
  refine endG rfl rfl (ef:=⟨D.int 0,[(0,.box 65 (stL 4 2 3 ⟨id,ver,time,closed,cancel,e.defs,ns,tms,sgs⟩)),(1,.dead),(2,rT tms),(3,rS sgs)],[rN ns]⟩) ?_ (hQ _ _ rfl (.inr rfl))
  rw [stL,hrl]
  kernel_rfl
 ·have hb:c0n ⟨id,ver,time,closed,cancel,defs,nodes,tms,sgs⟩ e=(1,⟨id,ver,time,closed,cancel,defs,nodes,tms,sgs⟩):=by
   unfold c0n;rw [if_neg (by assumption)]
  rw [hb] at hQ
  exact end1 rfl rfl (by kernel_rfl) .f (hQ _ _ rfl (.inl rfl))
def b0b (s:S12)(e:Ev):Int × S12 :=
 if e.ty=1 then c0n s e else if e.ty=2 then c0P s e else if e.ty=3∨e.ty=4 then endL s e else if e.ty=5 then armL s e
 else if e.ty=6 then c0R s e else if e.ty=7 then a0b s e else if e.ty=8 then a0m s
 else if a0n s e.ty=true then (0,{ s with closed:=e.ty }) else (4,s)
def c0F (s:S12)(e:Ev):Int × S12 :=
 if b0D e=false∨e.id≠s.id+1∨e.ver<s.ver∨e.time<s.time then (1,s)
 else if s.closed≠0 then (12,s)
 else if decide (s.id=0)≠decide (e.ty=1) then (4,s)
 else ((b0b s e).1,{ (b0b s e).2 with id:=e.id,ver:=e.ver,time:=e.time })
def s0:S12:=⟨0,0,0,0,false,[],[],[],[]⟩
def y0y (s:S12)(e:Ev):Int × S12:=if (c0F s e).1=0 then (0,(c0F s e).2) else ((c0F s e).1,s0)
structure FitA (s:S12):Prop where
 fit:FitS s
 defs:Fit s.defs
 le:∀ d∈s.defs,0≤d.le∧d.le≤1048576
 tr:∀ x∈s.nodes,0≤x.tr∧x.tr≤1000000
structure FitE (e:Ev):Prop where
 time:0≤e.time∧e.time≤1099511627776
 n:e.ty=5→0≤e.n∧e.n≤1048576
 node:0≤e.node
 data:e.data.length≤1000000
 defs:Fit e.defs
set_option maxRecDepth 100000 in
theorem z0k (s:S12)(e:Ev)(hs:FitA s)(he:FitE e) :
  Con Tryz.prog 93 [.pt 0 0,evD e] (stH s) fun r H'=>r=D.int (b0b s e).1∧∃ m,H'=stM m (b0b s e).2:=by
 obtain ⟨id,ver,time,closed,cancel,defs,nodes,tms,sgs⟩:=s
 suffices hh:∀ Q:D→List Row→Prop,(∀ r H',r=D.int (b0b ⟨id,ver,time,closed,cancel,defs,nodes,tms,sgs⟩ e).1→(∃ m,H'=stM m (b0b ⟨id,ver,time,closed,cancel,defs,nodes,tms,sgs⟩ e).2)→Q r H')→Con Tryz.prog 93 [.pt 0 0,evD e] (stH ⟨id,ver,time,closed,cancel,defs,nodes,tms,sgs⟩) Q from hh _ fun _ _ h1 h2=>⟨h1,h2⟩
 intro Q hQ
 refine Con.walk good w0k (by simp) ?_
 unfold r0I
 simp only [a0K,evD,stH,stL,rN,rT,rS]
 have hnl:=hs.fit.nodes
 have htl:=hs.fit.tms
 have hsl:=hs.fit.sgs
 have hdl:=hs.fit.defs.2
 repeat' (with_reducible first|refine Wx.h ?_|refine Wb.h fun K hK=>?_|(refine hK _ ?_;clear hK K)|(refine wT ?_ ?_;assumption)|(refine wF ?_ ?_;assumption)|(refine Wy.h ?_ ?_;kernel_rfl)|refine Wq.h ?_ ?_<;>intro h<;>try (exfalso;omega)|refine Wu.h ?_ ?_<;>intro h<;>try simp only [h]|((fail_if_success refine Wz.h ?_);first|simp (disch:=omega) only [↓LD,LA,a0A,seval,LSt]|(refine And.intro ?_ ?_;omega)|simp only [D.int,D.bool]))
 ·have hb:b0b ⟨id,ver,time,closed,cancel,defs,nodes,tms,sgs⟩ e=c0n ⟨id,ver,time,closed,cancel,defs,nodes,tms,sgs⟩ e:=by simp [b0b, *]
  rw [hb] at hQ
  refine a0F (x0B ⟨id,ver,time,closed,cancel,defs,nodes,tms,sgs⟩ e he.defs he.data) [0,1,2,3] (by kernel_rfl) rfl rfl ?_
  rintro _ _ ⟨rfl,hH⟩
  generalize c0n ⟨id,ver,time,closed,cancel,defs,nodes,tms,sgs⟩ e=p at hQ hH ⊢
  obtain ⟨v,s'⟩:=p
  dsimp only at hQ hH ⊢
  rcases hH with rfl|rfl
  ·simp (disch:=omega) only [↓LD,LA,a0A,seval,ren,List.getElem?_nil,stM,stH,stL,rN,rT,rS]
   repeat' (with_reducible first|refine Wx.h ?_|refine Wb.h fun K hK=>?_|(refine hK _ ?_;clear hK K)|(refine wT ?_ ?_;assumption)|(refine wF ?_ ?_;assumption)|(refine Wy.h ?_ ?_;kernel_rfl)|refine Wq.h ?_ ?_<;>intro h<;>try (exfalso;omega)|refine Wu.h ?_ ?_<;>intro h<;>try simp only [h]|((fail_if_success refine Wz.h ?_);first|simp (disch:=omega) only [↓LD,LA,a0A,seval]|(refine And.intro ?_ ?_;omega)|simp only [D.int,D.bool]))
   exact end1 rfl rfl (by kernel_rfl) .f (hQ _ _ rfl ⟨0,rfl⟩)
  ·simp (disch:=omega) only [↓LD,LA,a0A,seval,ren,List.getElem?_nil,stM,stH,stL,rN,rT,rS]
   repeat' (with_reducible first|refine Wx.h ?_|refine Wb.h fun K hK=>?_|(refine hK _ ?_;clear hK K)|(refine wT ?_ ?_;assumption)|(refine wF ?_ ?_;assumption)|(refine Wy.h ?_ ?_;kernel_rfl)|refine Wq.h ?_ ?_<;>intro h<;>try (exfalso;omega)|refine Wu.h ?_ ?_<;>intro h<;>try simp only [h]|((fail_if_success refine Wz.h ?_);first|simp (disch:=omega) only [↓LD,LA,a0A,seval]|(refine And.intro ?_ ?_;omega)|simp only [D.int,D.bool]))
   exact endG rfl rfl (ef:=⟨D.int v,[(0,.box 65 (stL 4 2 3 s')),(1,.dead),(2,rT s'.tms),(3,rS s'.sgs)],[rN s'.nodes]⟩) (by kernel_rfl) (hQ _ _ rfl ⟨1,rfl⟩)
 ·have hb:b0b ⟨id,ver,time,closed,cancel,defs,nodes,tms,sgs⟩ e=c0P ⟨id,ver,time,closed,cancel,defs,nodes,tms,sgs⟩ e:=by simp [b0b, *]
  rw [hb] at hQ
  refine a0F (x0E ⟨id,ver,time,closed,cancel,defs,nodes,tms,sgs⟩ e (⟨he.time,hs.le,hs.tr⟩) he.node hs.defs hnl) [0,1,2,3] (by kernel_rfl) rfl rfl ?_
  rintro _ _ ⟨rfl,hH⟩
  generalize c0P ⟨id,ver,time,closed,cancel,defs,nodes,tms,sgs⟩ e=p at hQ hH ⊢
  obtain ⟨v,s'⟩:=p
  dsimp only at hQ hH ⊢
  subst hH
  simp (disch:=omega) only [↓LD,LA,a0A,seval,ren,List.getElem?_nil,stM,stH,stL,rN,rT,rS]
  repeat' (with_reducible first|refine Wx.h ?_|refine Wb.h fun K hK=>?_|(refine hK _ ?_;clear hK K)|(refine wT ?_ ?_;assumption)|(refine wF ?_ ?_;assumption)|(refine Wy.h ?_ ?_;kernel_rfl)|refine Wq.h ?_ ?_<;>intro h<;>try (exfalso;omega)|refine Wu.h ?_ ?_<;>intro h<;>try simp only [h]|((fail_if_success refine Wz.h ?_);first|simp (disch:=omega) only [↓LD,LA,a0A,seval]|(refine And.intro ?_ ?_;omega)|simp only [D.int,D.bool]))
  exact end1 rfl rfl (by kernel_rfl) .f (hQ _ _ rfl ⟨0,rfl⟩)
 ·have hb:b0b ⟨id,ver,time,closed,cancel,defs,nodes,tms,sgs⟩ e=endL ⟨id,ver,time,closed,cancel,defs,nodes,tms,sgs⟩ e:=by simp [b0b, *]
  rw [hb] at hQ
  refine a0F (u0I ⟨id,ver,time,closed,cancel,defs,nodes,tms,sgs⟩ e he.node hnl he.data hdl) [0,1,2,3] (by kernel_rfl) rfl rfl ?_
  rintro _ _ ⟨rfl,hH⟩
  generalize endL ⟨id,ver,time,closed,cancel,defs,nodes,tms,sgs⟩ e=p at hQ hH ⊢
  obtain ⟨v,s'⟩:=p
  dsimp only at hQ hH ⊢
  subst hH
  simp (disch:=omega) only [↓LD,LA,a0A,seval,ren,List.getElem?_nil,stM,stH,stL,rN,rT,rS]
  repeat' (with_reducible first|refine Wx.h ?_|refine Wb.h fun K hK=>?_|(refine hK _ ?_;clear hK K)|(refine wT ?_ ?_;assumption)|(refine wF ?_ ?_;assumption)|(refine Wy.h ?_ ?_;kernel_rfl)|refine Wq.h ?_ ?_<;>intro h<;>try (exfalso;omega)|refine Wu.h ?_ ?_<;>intro h<;>try simp only [h]|((fail_if_success refine Wz.h ?_);first|simp (disch:=omega) only [↓LD,LA,a0A,seval]|(refine And.intro ?_ ?_;omega)|simp only [D.int,D.bool]))
  exact end1 rfl rfl (by kernel_rfl) .f (hQ _ _ rfl ⟨0,rfl⟩)
 ·have hb:b0b ⟨id,ver,time,closed,cancel,defs,nodes,tms,sgs⟩ e=endL ⟨id,ver,time,closed,cancel,defs,nodes,tms,sgs⟩ e:=by simp [b0b, *]
  rw [hb] at hQ
  refine a0F (u0I ⟨id,ver,time,closed,cancel,defs,nodes,tms,sgs⟩ e he.node hnl he.data hdl) [0,1,2,3] (by kernel_rfl) rfl rfl ?_
  rintro _ _ ⟨rfl,hH⟩
  generalize endL ⟨id,ver,time,closed,cancel,defs,nodes,tms,sgs⟩ e=p at hQ hH ⊢
  obtain ⟨v,s'⟩:=p
  dsimp only at hQ hH ⊢
  subst hH
  simp (disch:=omega) only [↓LD,LA,a0A,seval,ren,List.getElem?_nil,stM,stH,stL,rN,rT,rS]
  repeat' (with_reducible first|refine Wx.h ?_|refine Wb.h fun K hK=>?_|(refine hK _ ?_;clear hK K)|(refine wT ?_ ?_;assumption)|(refine wF ?_ ?_;assumption)|(refine Wy.h ?_ ?_;kernel_rfl)|refine Wq.h ?_ ?_<;>intro h<;>try (exfalso;omega)|refine Wu.h ?_ ?_<;>intro h<;>try simp only [h]|((fail_if_success refine Wz.h ?_);first|simp (disch:=omega) only [↓LD,LA,a0A,seval]|(refine And.intro ?_ ?_;omega)|simp only [D.int,D.bool]))
  exact end1 rfl rfl (by kernel_rfl) .f (hQ _ _ rfl ⟨0,rfl⟩)
 ·have hb:b0b ⟨id,ver,time,closed,cancel,defs,nodes,tms,sgs⟩ e=armL ⟨id,ver,time,closed,cancel,defs,nodes,tms,sgs⟩ e:=by simp [b0b, *]
  rw [hb] at hQ
  refine a0F (b1u ⟨id,ver,time,closed,cancel,defs,nodes,tms,sgs⟩ e htl he.time (he.n h)) [0,1,2,3] (by kernel_rfl) rfl rfl ?_
  rintro _ _ ⟨rfl,hH⟩
  generalize armL ⟨id,ver,time,closed,cancel,defs,nodes,tms,sgs⟩ e=p at hQ hH ⊢
  obtain ⟨v,s'⟩:=p
  dsimp only at hQ hH ⊢
  rcases hH with rfl|rfl
  ·simp (disch:=omega) only [↓LD,LA,a0A,seval,ren,List.getElem?_nil,stM,stH,stL,rN,rT,rS]
   repeat' (with_reducible first|refine Wx.h ?_|refine Wb.h fun K hK=>?_|(refine hK _ ?_;clear hK K)|(refine wT ?_ ?_;assumption)|(refine wF ?_ ?_;assumption)|(refine Wy.h ?_ ?_;kernel_rfl)|refine Wq.h ?_ ?_<;>intro h<;>try (exfalso;omega)|refine Wu.h ?_ ?_<;>intro h<;>try simp only [h]|((fail_if_success refine Wz.h ?_);first|simp (disch:=omega) only [↓LD,LA,a0A,seval]|(refine And.intro ?_ ?_;omega)|simp only [D.int,D.bool]))
   exact end1 rfl rfl (by kernel_rfl) .f (hQ _ _ rfl ⟨0,rfl⟩)
  ·simp (disch:=omega) only [↓LD,LA,a0A,seval,ren,List.getElem?_nil,stM,stH,stL,rN,rT,rS]
   repeat' (with_reducible first|refine Wx.h ?_|refine Wb.h fun K hK=>?_|(refine hK _ ?_;clear hK K)|(refine wT ?_ ?_;assumption)|(refine wF ?_ ?_;assumption)|(refine Wy.h ?_ ?_;kernel_rfl)|refine Wq.h ?_ ?_<;>intro h<;>try (exfalso;omega)|refine Wu.h ?_ ?_<;>intro h<;>try simp only [h]|((fail_if_success refine Wz.h ?_);first|simp (disch:=omega) only [↓LD,LA,a0A,seval]|(refine And.intro ?_ ?_;omega)|simp only [D.int,D.bool]))
   exact endG rfl rfl (ef:=⟨D.int v,[(0,.box 65 (stL 1 4 3 s')),(1,rN s'.nodes),(2,.dead),(3,rS s'.sgs)],[rT s'.tms]⟩) (by kernel_rfl) (hQ _ _ rfl ⟨2,rfl⟩)
 ·have hb:b0b ⟨id,ver,time,closed,cancel,defs,nodes,tms,sgs⟩ e=c0R ⟨id,ver,time,closed,cancel,defs,nodes,tms,sgs⟩ e:=by simp [b0b, *]
  rw [hb] at hQ
  refine a0F (a1G ⟨id,ver,time,closed,cancel,defs,nodes,tms,sgs⟩ e htl) [0,1,2,3] (by kernel_rfl) rfl rfl ?_
  rintro _ _ ⟨rfl,hH⟩
  generalize c0R ⟨id,ver,time,closed,cancel,defs,nodes,tms,sgs⟩ e=p at hQ hH ⊢
  obtain ⟨v,s'⟩:=p
  dsimp only at hQ hH ⊢
  subst hH
  simp (disch:=omega) only [↓LD,LA,a0A,seval,ren,List.getElem?_nil,stM,stH,stL,rN,rT,rS]
  repeat' (with_reducible first|refine Wx.h ?_|refine Wb.h fun K hK=>?_|(refine hK _ ?_;clear hK K)|(refine wT ?_ ?_;assumption)|(refine wF ?_ ?_;assumption)|(refine Wy.h ?_ ?_;kernel_rfl)|refine Wq.h ?_ ?_<;>intro h<;>try (exfalso;omega)|refine Wu.h ?_ ?_<;>intro h<;>try simp only [h]|((fail_if_success refine Wz.h ?_);first|simp (disch:=omega) only [↓LD,LA,a0A,seval]|(refine And.intro ?_ ?_;omega)|simp only [D.int,D.bool]))
  exact end1 rfl rfl (by kernel_rfl) .f (hQ _ _ rfl ⟨0,rfl⟩)
 ·have hb:b0b ⟨id,ver,time,closed,cancel,defs,nodes,tms,sgs⟩ e=a0b ⟨id,ver,time,closed,cancel,defs,nodes,tms,sgs⟩ e:=by simp [b0b, *]
  rw [hb] at hQ
  refine a0F (t0H ⟨id,ver,time,closed,cancel,defs,nodes,tms,sgs⟩ e hsl he.data) [0,1,2,3] (by kernel_rfl) rfl rfl ?_
  rintro _ _ ⟨rfl,hH⟩
  generalize a0b ⟨id,ver,time,closed,cancel,defs,nodes,tms,sgs⟩ e=p at hQ hH ⊢
  obtain ⟨v,s'⟩:=p
  dsimp only at hQ hH ⊢
  rcases hH with rfl|rfl
  ·simp (disch:=omega) only [↓LD,LA,a0A,seval,ren,List.getElem?_nil,stM,stH,stL,rN,rT,rS]
   repeat' (with_reducible first|refine Wx.h ?_|refine Wb.h fun K hK=>?_|(refine hK _ ?_;clear hK K)|(refine wT ?_ ?_;assumption)|(refine wF ?_ ?_;assumption)|(refine Wy.h ?_ ?_;kernel_rfl)|refine Wq.h ?_ ?_<;>intro h<;>try (exfalso;omega)|refine Wu.h ?_ ?_<;>intro h<;>try simp only [h]|((fail_if_success refine Wz.h ?_);first|simp (disch:=omega) only [↓LD,LA,a0A,seval]|(refine And.intro ?_ ?_;omega)|simp only [D.int,D.bool]))
   exact end1 rfl rfl (by kernel_rfl) .f (hQ _ _ rfl ⟨0,rfl⟩)
  ·simp (disch:=omega) only [↓LD,LA,a0A,seval,ren,List.getElem?_nil,stM,stH,stL,rN,rT,rS]
   repeat' (with_reducible first|refine Wx.h ?_|refine Wb.h fun K hK=>?_|(refine hK _ ?_;clear hK K)|(refine wT ?_ ?_;assumption)|(refine wF ?_ ?_;assumption)|(refine Wy.h ?_ ?_;kernel_rfl)|refine Wq.h ?_ ?_<;>intro h<;>try (exfalso;omega)|refine Wu.h ?_ ?_<;>intro h<;>try simp only [h]|((fail_if_success refine Wz.h ?_);first|simp (disch:=omega) only [↓LD,LA,a0A,seval]|(refine And.intro ?_ ?_;omega)|simp only [D.int,D.bool]))
   exact endG rfl rfl (ef:=⟨D.int v,[(0,.box 65 (stL 1 2 4 s')),(1,rN s'.nodes),(2,rT s'.tms),(3,.dead)],[rS s'.sgs]⟩) (by kernel_rfl) (hQ _ _ rfl ⟨3,rfl⟩)
 ·have hb:b0b ⟨id,ver,time,closed,cancel,defs,nodes,tms,sgs⟩ e=a0m ⟨id,ver,time,closed,cancel,defs,nodes,tms,sgs⟩:=by simp [b0b, *]
  rw [hb] at hQ
  refine a0F (t0Z ⟨id,ver,time,closed,cancel,defs,nodes,tms,sgs⟩) [0,1,2,3] (by kernel_rfl) rfl rfl ?_
  rintro _ _ ⟨rfl,hH⟩
  generalize a0m ⟨id,ver,time,closed,cancel,defs,nodes,tms,sgs⟩=p at hQ hH ⊢
  obtain ⟨v,s'⟩:=p
  dsimp only at hQ hH ⊢
  subst hH
  simp (disch:=omega) only [↓LD,LA,a0A,seval,ren,List.getElem?_nil,stM,stH,stL,rN,rT,rS]
  repeat' (with_reducible first|refine Wx.h ?_|refine Wb.h fun K hK=>?_|(refine hK _ ?_;clear hK K)|(refine wT ?_ ?_;assumption)|(refine wF ?_ ?_;assumption)|(refine Wy.h ?_ ?_;kernel_rfl)|refine Wq.h ?_ ?_<;>intro h<;>try (exfalso;omega)|refine Wu.h ?_ ?_<;>intro h<;>try simp only [h]|((fail_if_success refine Wz.h ?_);first|simp (disch:=omega) only [↓LD,LA,a0A,seval]|(refine And.intro ?_ ?_;omega)|simp only [D.int,D.bool]))
  exact end1 rfl rfl (by kernel_rfl) .f (hQ _ _ rfl ⟨0,rfl⟩)
 refine a0F (q0L ⟨id,ver,time,closed,cancel,defs,nodes,tms,sgs⟩ e.ty hnl) [0,1,2,3] (by kernel_rfl) rfl rfl ?_
 rintro _ _ ⟨rfl,rfl⟩
 simp (disch:=omega) only [↓LD,LA,a0A,seval,ren,List.getElem?_nil,stM,stH,stL,rN,rT,rS]
 repeat' (with_reducible first|refine Wx.h ?_|refine Wb.h fun K hK=>?_|(refine hK _ ?_;clear hK K)|(refine wT ?_ ?_;assumption)|(refine wF ?_ ?_;assumption)|(refine Wy.h ?_ ?_;kernel_rfl)|refine Wq.h ?_ ?_<;>intro h<;>try (exfalso;omega)|refine Wu.h ?_ ?_<;>intro h<;>try simp only [h]|((fail_if_success refine Wz.h ?_);first|simp (disch:=omega) only [↓LD,LA,a0A,seval,Bool.not_eq_true']|(refine And.intro ?_ ?_;omega)|simp only [D.int,D.bool]))
 ·have hc:a0n ⟨id,ver,time,closed,cancel,defs,nodes,tms,sgs⟩ e.ty=false:=by simpa using h
  have hb:b0b ⟨id,ver,time,closed,cancel,defs,nodes,tms,sgs⟩ e=(4,⟨id,ver,time,closed,cancel,defs,nodes,tms,sgs⟩):=by simp [b0b, *]
  rw [hb] at hQ
  exact end1 rfl rfl (by kernel_rfl) .f (hQ _ _ rfl ⟨0,rfl⟩)
 ·have hc:a0n ⟨id,ver,time,closed,cancel,defs,nodes,tms,sgs⟩ e.ty=true:=by simp_all
  have hb:b0b ⟨id,ver,time,closed,cancel,defs,nodes,tms,sgs⟩ e=(0,⟨id,ver,time,e.ty,cancel,defs,nodes,tms,sgs⟩):=by simp [b0b, *]
  rw [hb] at hQ
  exact end1 rfl rfl (by kernel_rfl) .f (hQ _ _ rfl ⟨0,rfl⟩)
theorem fitE {e:Ev}(h:b0D e=true)(hd:e.data.length≤1000000)(hf:Fit e.defs):FitE e:=by
 unfold b0D at h
 simp only [Bool.and_eq_true] at h
 obtain ⟨⟨⟨⟨⟨⟨h1,h2⟩,h3⟩,h4⟩,h5⟩,h6⟩,h7⟩:=h
 simp only [inI,Bool.and_eq_true,decide_eq_true_eq] at h4
 simp only [numB,Bool.and_eq_true] at h5
 obtain ⟨⟨⟨g1,g2⟩,g3⟩,g4⟩:=h5
 simp only [inI,Bool.and_eq_true,decide_eq_true_eq] at g3
 refine ⟨h4,fun e5=>?_,g3.1,hd,hf⟩
 rw [e5] at g4
 simp [pN,s0n,inI] at g4
 omega
class Vb (x:Bool)(b:outParam Bool):Prop where h:x=b
instance {e:Ev}{b:Bool}{H:List Row}{K:Bool→D→List Row→Prop}[hb:Vb (b0D e) b][hf:Small e.defs]:Wa (a0e Tryz.prog (.fn 60 []) [.ag [.f (.v (.int .i64 e.id)),.f (.v (.int .i64 e.ver)),.f (.v (.int .i64 e.time)),.f (.v (.int .i64 e.ty)),.f (.v (.int .i64 e.node)),.f (.v (.int .i64 e.n)),.f (.v (.string (BB e.name))),.f (fY e.data),.f (fG e.defs)]] H K)
  (K true (.f (.v (.bool b))) H):=⟨fun h=>by rw [←hb.h] at h;exact a0M (w0u e hf.h.1 hf.h.2) rfl rfl rfl h⟩
set_option maxRecDepth 100000 in
theorem x0r (s:S12)(e:Ev)(hs:FitA s)(hd:e.data.length≤1000000)(hf:Fit e.defs)(hi:0≤s.id∧s.id<1000000000) :
    Con Tryz.prog 59 [.pt 0 0,evD e] (stH s) fun r H'=>r=D.int (c0F s e).1∧∃ m,H'=stM m (c0F s e).2:=by
  obtain ⟨id,ver,time,closed,cancel,defs,nodes,tms,sgs⟩:=s
  suffices hh:∀ Q:D→List Row→Prop,(∀ r H',r=D.int (c0F ⟨id,ver,time,closed,cancel,defs,nodes,tms,sgs⟩ e).1→(∃ m,H'=stM m (c0F ⟨id,ver,time,closed,cancel,defs,nodes,tms,sgs⟩ e).2)→Q r H')→Con Tryz.prog 59 [.pt 0 0,evD e] (stH ⟨id,ver,time,closed,cancel,defs,nodes,tms,sgs⟩) Q from hh _ fun _ _ h1 h2=>⟨h1,h2⟩
  intro Q hQ
  haveI:Small e.defs:=⟨⟨fun d hd=>hf.2 d hd,by have:=hf.1;omega⟩⟩
  refine Con.walk good s0m (by simp) ?_
  unfold l0T
  simp only [a0K,evD,stH,stL,rN,rT,rS]
  obtain ⟨hi1,hi2⟩:=hi
  dsimp only at hi1 hi2
  cases hre:b0D e
  all_goals
    haveI:Vb (b0D e) _:=⟨hre⟩
    repeat' (with_reducible first|refine Wx.h ?_|refine We.h fun K hK=>?_|refine Wd.h fun K M hK hM=>?_|(refine hK _ _ _ _ ?_;clear hK K;try clear hM M)|(refine hM ?_;clear hM M;try clear hK K)|refine Wb.h fun K hK=>?_|(refine hK _ ?_;clear hK K)|(refine wT ?_ ?_;assumption)|(refine wF ?_ ?_;assumption)|(refine Wy.h ?_ ?_;kernel_rfl)|refine Wq.h ?_ ?_<;>intro h<;>try (exfalso;omega)|refine Wu.h ?_ ?_<;>intro h<;>try simp only [h]|((fail_if_success refine Wz.h ?_);first|simp (disch:=omega) only [↓LD,LA,a0A,seval,LSt]|(refine And.intro ?_ ?_;omega)|simp only [D.int,D.bool]))
  all_goals first
    | (have hb:c0F ⟨id,ver,time,closed,cancel,defs,nodes,tms,sgs⟩ e=(1,⟨id,ver,time,closed,cancel,defs,nodes,tms,sgs⟩):=by (unfold c0F;rw [if_pos (by simp_all)])
       rw [hb] at hQ
       exact end1 rfl rfl (by kernel_rfl) .f (hQ _ _ rfl ⟨0,rfl⟩))
    | (have hb:c0F ⟨id,ver,time,closed,cancel,defs,nodes,tms,sgs⟩ e=(12,⟨id,ver,time,closed,cancel,defs,nodes,tms,sgs⟩):=by (unfold c0F;rw [if_neg (by simp_all),if_pos (by assumption)])
       rw [hb] at hQ
       exact end1 rfl rfl (by kernel_rfl) .f (hQ _ _ rfl ⟨0,rfl⟩))
    | (have hb:c0F ⟨id,ver,time,closed,cancel,defs,nodes,tms,sgs⟩ e=(4,⟨id,ver,time,closed,cancel,defs,nodes,tms,sgs⟩):=by (unfold c0F;rw [if_neg (by simp_all),if_neg (by simp_all),if_pos (by simp_all)])
       rw [hb] at hQ
       exact end1 rfl rfl (by kernel_rfl) .f (hQ _ _ rfl ⟨0,rfl⟩))
    | skip
  all_goals
    have hb:c0F ⟨id,ver,time,closed,cancel,defs,nodes,tms,sgs⟩ e=((b0b ⟨id,ver,time,closed,cancel,defs,nodes,tms,sgs⟩ e).1,{ (b0b ⟨id,ver,time,closed,cancel,defs,nodes,tms,sgs⟩ e).2 with id:=e.id,ver:=e.ver,time:=e.time }):=by
      unfold c0F;rw [if_neg (by simp_all),if_neg (by simp_all),if_neg (by simp_all)]
    rw [hb] at hQ
    refine a0F (z0k ⟨id,ver,time,closed,cancel,defs,nodes,tms,sgs⟩ e hs (fitE hre hd hf)) [0,1,2,3] (by kernel_rfl) rfl rfl ?_
    rintro _ _ ⟨rfl,m,rfl⟩
    generalize b0b ⟨id,ver,time,closed,cancel,defs,nodes,tms,sgs⟩ e=p at hQ ⊢
    obtain ⟨v,s'⟩:=p
    dsimp only at hQ ⊢
    rcases m with _|_|_|m
    · simp (disch:=omega) only [↓LD,LA,a0A,seval,ren,List.getElem?_nil,stM,stH,stL,rN,rT,rS]
      repeat' (with_reducible first|refine Wx.h ?_|refine We.h fun K hK=>?_|refine Wd.h fun K M hK hM=>?_|(refine hK _ _ _ _ ?_;clear hK K;try clear hM M)|(refine hM ?_;clear hM M;try clear hK K)|refine Wb.h fun K hK=>?_|(refine hK _ ?_;clear hK K)|(refine wT ?_ ?_;assumption)|(refine wF ?_ ?_;assumption)|(refine Wy.h ?_ ?_;kernel_rfl)|refine Wq.h ?_ ?_<;>intro h<;>try (exfalso;omega)|refine Wu.h ?_ ?_<;>intro h<;>try simp only [h]|((fail_if_success refine Wz.h ?_);first|simp (disch:=omega) only [↓LD,LA,a0A,seval]|(refine And.intro ?_ ?_;omega)|simp only [D.int,D.bool]))
      exact end1 rfl rfl (by kernel_rfl) .f (hQ _ _ rfl ⟨0,rfl⟩)
    · simp (disch:=omega) only [↓LD,LA,a0A,seval,ren,List.getElem?_nil,stM,stH,stL,rN,rT,rS]
      repeat' (with_reducible first|refine Wx.h ?_|refine We.h fun K hK=>?_|refine Wd.h fun K M hK hM=>?_|(refine hK _ _ _ _ ?_;clear hK K;try clear hM M)|(refine hM ?_;clear hM M;try clear hK K)|refine Wb.h fun K hK=>?_|(refine hK _ ?_;clear hK K)|(refine wT ?_ ?_;assumption)|(refine wF ?_ ?_;assumption)|(refine Wy.h ?_ ?_;kernel_rfl)|refine Wq.h ?_ ?_<;>intro h<;>try (exfalso;omega)|refine Wu.h ?_ ?_<;>intro h<;>try simp only [h]|((fail_if_success refine Wz.h ?_);first|simp (disch:=omega) only [↓LD,LA,a0A,seval]|(refine And.intro ?_ ?_;omega)|simp only [D.int,D.bool]))
      exact endG rfl rfl (ef:=⟨D.int v,[(0,.box 65 (stL 4 2 3 ⟨e.id,e.ver,e.time,s'.closed,s'.cancel,s'.defs,s'.nodes,s'.tms,s'.sgs⟩)),(1,.dead),(2,rT s'.tms),(3,rS s'.sgs)],[rN s'.nodes]⟩) (by kernel_rfl) (hQ _ _ rfl ⟨1,rfl⟩)
    · simp (disch:=omega) only [↓LD,LA,a0A,seval,ren,List.getElem?_nil,stM,stH,stL,rN,rT,rS]
      repeat' (with_reducible first|refine Wx.h ?_|refine We.h fun K hK=>?_|refine Wd.h fun K M hK hM=>?_|(refine hK _ _ _ _ ?_;clear hK K;try clear hM M)|(refine hM ?_;clear hM M;try clear hK K)|refine Wb.h fun K hK=>?_|(refine hK _ ?_;clear hK K)|(refine wT ?_ ?_;assumption)|(refine wF ?_ ?_;assumption)|(refine Wy.h ?_ ?_;kernel_rfl)|refine Wq.h ?_ ?_<;>intro h<;>try (exfalso;omega)|refine Wu.h ?_ ?_<;>intro h<;>try simp only [h]|((fail_if_success refine Wz.h ?_);first|simp (disch:=omega) only [↓LD,LA,a0A,seval]|(refine And.intro ?_ ?_;omega)|simp only [D.int,D.bool]))
      exact endG rfl rfl (ef:=⟨D.int v,[(0,.box 65 (stL 1 4 3 ⟨e.id,e.ver,e.time,s'.closed,s'.cancel,s'.defs,s'.nodes,s'.tms,s'.sgs⟩)),(1,rN s'.nodes),(2,.dead),(3,rS s'.sgs)],[rT s'.tms]⟩) (by kernel_rfl) (hQ _ _ rfl ⟨2,rfl⟩)
    · simp (disch:=omega) only [↓LD,LA,a0A,seval,ren,List.getElem?_nil,stM,stH,stL,rN,rT,rS]
      repeat' (with_reducible first|refine Wx.h ?_|refine We.h fun K hK=>?_|refine Wd.h fun K M hK hM=>?_|(refine hK _ _ _ _ ?_;clear hK K;try clear hM M)|(refine hM ?_;clear hM M;try clear hK K)|refine Wb.h fun K hK=>?_|(refine hK _ ?_;clear hK K)|(refine wT ?_ ?_;assumption)|(refine wF ?_ ?_;assumption)|(refine Wy.h ?_ ?_;kernel_rfl)|refine Wq.h ?_ ?_<;>intro h<;>try (exfalso;omega)|refine Wu.h ?_ ?_<;>intro h<;>try simp only [h]|((fail_if_success refine Wz.h ?_);first|simp (disch:=omega) only [↓LD,LA,a0A,seval]|(refine And.intro ?_ ?_;omega)|simp only [D.int,D.bool]))
      exact endG rfl rfl (ef:=⟨D.int v,[(0,.box 65 (stL 1 2 4 ⟨e.id,e.ver,e.time,s'.closed,s'.cancel,s'.defs,s'.nodes,s'.tms,s'.sgs⟩)),(1,rN s'.nodes),(2,rT s'.tms),(3,.dead)],[rS s'.sgs]⟩) (by kernel_rfl) (hQ _ _ rfl ⟨3,rfl⟩)
theorem e1P {a b c:Nat}{s:S12}{H:List Row}(h1:H[a]?=some (rN s.nodes))(h2:H[b]?=some (rT s.tms))(h3:H[c]?=some (rS s.sgs)):Vw H (.ag (stL a b c s)) (stD s) :=
 .ags (.cons .f (.cons .f (.cons .f (.cons .f (.cons .f (.cons .f (.cons (.sl h1 (fun e=>by rw [List.eq_nil_of_length_eq_zero e];try rfl)) (.cons (.sl h2 (fun e=>by rw [List.eq_nil_of_length_eq_zero e];try rfl)) (.cons (.sl h3 (fun e=>by rw [List.eq_nil_of_length_eq_zero e];try rfl)) .nil)))))))))
def a0Y (s:S12):Int :=
 if s.closed≠0∨s.defs.length=0 then 0 else if s.cancel=true∧cntL s.nodes 1=0 then 11 else if 0<cntL s.nodes 3 then 10 else if cntL s.nodes 2=s.nodes.length then 9 else 0
theorem d1j (done:List Bool):∀ (k:Nat) (ds:List Nd),0≤nxt done k ds→(k:Int)≤nxt done k ds∧nxt done k ds<k+ds.length∧gt done (nxt done k ds).toNat=false
 | k,[],h=>by simp [nxt] at h
 | k,d :: ds,h=>by
  unfold nxt at h ⊢
  split
  ·rename_i hc
   simp at hc
   simp [hc.1];omega
  ·rename_i hc
   rw [if_neg hc] at h
   obtain ⟨h1,h2,h3⟩:=d1j done (k+1) ds h
   refine ⟨by omega,?_,h3⟩
   simp only [List.length_cons];omega
def opn (done:List Bool):Nat:=done.count false
theorem e1j {done:List Bool}{k:Nat}(hk:k<done.length)(h:gt done k=false):opn (done.set k true)+1=opn done:=by
 unfold opn
 have h1:done[k]=false:=by rw [←b0R hk];exact h
 have hpos:0<done.count false:=List.count_pos_iff.2 (h1 ▸ List.getElem_mem hk)
 rw [List.count_set hk]
 simp [h1];omega
theorem a1k (n:Nat):opn (List.replicate n false)=n:=by simp [opn]
end Go.Proofs.YthjgmldnegaaiaaGreatDoor.Mir
