/- Lemmas for the proof. No condition. -/
import Derived.Test.YthjgmldnegaaiaaGreatDoorQf09
set_option linter.unusedVariables false
set_option linter.unusedSimpArgs false
namespace Go.Proofs.YthjgmldnegaaiaaGreatDoor.Mir
open Go Go.RowKit
set_option maxHeartbeats 2000000
theorem t0C (l:List Int)(x:Int)(hl:l.length<1000000):Con Tryz.prog 179 [.f (fI l),D.int x] [] fun r H'=>r=D.int (idxF (fun y=>decide (x=y)) 0 l)∧H'=[]:=by
 refine Con.walk good p0q (by simp) ?_
 unfold j0B
 simp only [a0I,List.length_cons,List.length_nil,Nat.reduceAdd]
 repeat' (with_reducible first|refine Wx.h ?_|refine Wb.h fun K hK=>?_|(refine hK _ ?_;clear hK K)|((fail_if_success refine Wz.h ?_);simp (disch:=omega) only [↓LD,LA,a0A,seval,fI]))
 refine HS.loopP (fun k:Nat=>[(0,.f (fI l)),(1,D.int x),(7,D.int l.length),(8,D.int k)]) (fun _=>[])
  (fun k=>k≤l.length∧idxF (fun y=>decide (x=y)) 0 l=idxF (fun y=>decide (x=y)) k (l.drop k)) (fun k=>l.length-k) 0 rfl (by kernel_rfl) ⟨Nat.zero_le _,rfl⟩ ?_
 rintro k ⟨hk,hr⟩
 repeat' (with_reducible first|refine Wx.h ?_|refine Wb.h fun K hK=>?_|(refine hK _ ?_;clear hK K)|refine Wq.h ?_ ?_<;>intro h|((fail_if_success refine Wz.h ?_);first|simp (disch:=omega) only [↓LD,LA,a0A,seval,fI]|(refine And.intro ?_ ?_;omega)|fail))
 ·refine end1 rfl rfl (by kernel_rfl) .f ⟨congrArg D.int ?_,rfl⟩
  rw [hr,a0G (by omega),idxF,if_pos (by simpa using h)]
 ·refine NextP.mk (k+1) rfl (by kernel_rfl) ⟨by omega,?_⟩ (by omega)
  rw [hr,a0G (by omega),idxF,if_neg (by simpa using h)]
 ·refine end1 rfl rfl (by kernel_rfl) .f ⟨congrArg D.int ?_,rfl⟩
  rw [hr,List.drop_of_length_le (by omega)];try rfl
theorem k0g (l:List Int)(x:Int)(hl:l.length<1000000):Con Tryz.prog 159 [.f (fI l),D.int x] [] fun r H'=>r=D.bool (decide (x∈l))∧H'=[]:=by
 refine Con.walk good j0Z (by simp) ?_
 unfold e0k
 simp only [a0I,List.length_cons,List.length_nil,Nat.reduceAdd]
 repeat' (with_reducible first|refine Wx.h ?_|refine Wb.h fun K hK=>?_|(refine hK _ ?_;clear hK K)|((fail_if_success refine Wz.h ?_);simp (disch:=omega) only [↓LD,LA,a0A,seval]))
 refine b0D (t0C l x hl) ?_
 rintro _ _ ⟨rfl,rfl⟩
 repeat' (with_reducible first|refine Wx.h ?_|refine Wb.h fun K hK=>?_|(refine hK _ ?_;clear hK K)|refine Wq.h ?_ ?_<;>intro h|((fail_if_success refine Wz.h ?_);simp (disch:=omega) only [↓LD,LA,a0A,seval,D.int]))
 all_goals
  refine end1 rfl rfl (by kernel_rfl) .f ⟨congrArg D.bool ?_,rfl⟩
  have h1:=h0W (fun y=>decide (x=y)) 0 l
  have h2:l.any (fun y=>decide (x=y))=decide (x∈l):=by
   rw [Bool.eq_iff_iff];simp
  rw [←h2,←h1];simp;omega
instance {l:List Int}{x:Int}{H:List Row}{K:Bool→D→List Row→Prop}:Wa (a0k Tryz.prog (.fn 159 []) [.f (fI l),.f (.v (.int .i64 x))] H K) (l.length<1000000∧K true (.f (.v (.bool (decide (x∈l))))) H):=⟨fun h=>a0M (k0g l x h.1) rfl rfl rfl h.2⟩
set_option maxHeartbeats 4000000
theorem b0W {α:Type}[Inhabited α]{cs:α→List F}{n:Nat}(hn:∀ x,(cs x).length=n){j:Nat}{x:F}{y:α}(hj:j<n):∀ {l:List α} {k:Nat},k<l.length→cs y=(cs (gt l k)).set j x→(l.flatMap cs).set (k*n+j) x=(l.set k y).flatMap cs
 | [],k,hk,_=>by simp at hk
 | a :: l,0,_,hy=>by
  have:gt (a :: l) 0=a:=rfl
  rw [this] at hy
  rw [List.set_cons_zero,List.flatMap_cons,List.flatMap_cons,hy,Nat.zero_mul,Nat.zero_add,List.set_append_left _ _ (by rw [hn];exact hj)]
 | a :: l,k+1,hk,hy=>by
  have hk':k<l.length:=by simpa using hk
  have:gt (a :: l) (k+1)=gt l k:=by rw [b0P hk,b0P hk'];try rfl
  rw [this] at hy
  rw [List.set_cons_succ,List.flatMap_cons,List.flatMap_cons,←b0W hn hj hk' hy,List.set_append_right _ _ (by rw [hn,Nat.add_mul];omega),hn,show (k+1)*n+j-n=k*n+j by rw [Nat.add_mul];omega]
theorem m0I {α:Type}[Inhabited α]{l:List α}{k:Nat}{y:α}(h:k<l.length):gt (l.set k y) k=y:=by rw [b0P (by rw [List.length_set];exact h)];simp
def stH (s:S12):List Row:=[.box 65 (stL 1 2 3 s),rN s.nodes,rT s.tms,rS s.sgs]
theorem x0a (s:S12):(c0H s).length≤s.defs.length:=by
 unfold c0H
 split
 ·simp
 ·exact Nat.le_trans (List.length_filter_le _ _) (j0i _ _)
def c0R (s:S12)(e:Ev):Int × S12 :=
 if (s.nodes.length:Int)≤e.node∨(s.defs.length:Int)≤e.node then (1,s)
 else if e.node ∉ c0H s∨e.n≠(gt s.nodes e.node.toNat).tr+1 then (4,s)
 else (0,{ s with nodes:=s.nodes.set e.node.toNat { gt s.nodes e.node.toNat with st:=1,tr:=e.n,due:=e.time+(gt s.defs e.node.toNat).le } })
structure Num (s:S12)(e:Ev):Prop where
 time:0≤e.time∧e.time≤1099511627776
 le:∀ d∈s.defs,0≤d.le∧d.le≤1048576
 tr:∀ x∈s.nodes,0≤x.tr∧x.tr≤1000000
set_option maxRecDepth 100000 in
theorem x0g (s:S12)(e:Ev)(hn:Num s e)(h0:0≤e.node)(hf:Fit s.defs)(hl:s.nodes.length≤1000000) :
  Con Tryz.prog 135 [.pt 0 0,evD e] (stH s) fun r H'=>r=D.int (c0R s e).1∧H'=stH (c0R s e).2:=by
 obtain ⟨id,ver,time,closed,cancel,defs,nodes,tms,sgs⟩:=s
 obtain ⟨hn1,hn2,hn3⟩:=hn
 dsimp only at hn1 hn2 hn3 hf hl
 have hfl:=hf.1
 have hrl:(c0H ⟨id,ver,time,closed,cancel,defs,nodes,tms,sgs⟩).length<1000000:=by
  have:=x0a ⟨id,ver,time,closed,cancel,defs,nodes,tms,sgs⟩
  dsimp only at this;omega
 suffices hh:∀ Q:D→List Row→Prop,(∀ r H',r=D.int (c0R ⟨id,ver,time,closed,cancel,defs,nodes,tms,sgs⟩ e).1→H'=stH (c0R ⟨id,ver,time,closed,cancel,defs,nodes,tms,sgs⟩ e).2→Q r H')→Con Tryz.prog 135 [.pt 0 0,evD e] (stH ⟨id,ver,time,closed,cancel,defs,nodes,tms,sgs⟩) Q from hh _ fun _ _ h1 h2=>⟨h1,h2⟩
 intro Q hQ
 refine Con.walk good r0z (by simp) ?_
 unfold m0W
 simp only [a0I,evD,stH,stL,rN,rT,rS]
 repeat' (with_reducible first|refine Wx.h ?_|refine We.h fun K hK=>?_|(refine hK _ _ _ _ ?_;clear hK K;try clear hM M)|refine Wb.h fun K hK=>?_|(refine hK _ ?_;clear hK K)|(refine Wy.h ?_ ?_;kernel_rfl)|refine Wq.h ?_ ?_<;>intro h|((fail_if_success refine Wz.h ?_);first|simp (disch:=omega) only [↓LD,LA,a0A,seval,LSt]|(refine And.intro ?_ ?_;omega)|fail))
 ·have hb:c0R ⟨id,ver,time,closed,cancel,defs,nodes,tms,sgs⟩ e=(1,⟨id,ver,time,closed,cancel,defs,nodes,tms,sgs⟩):=by
   unfold c0R;rw [if_pos];dsimp only;omega
  rw [hb] at hQ
  exact end1 rfl rfl (by kernel_rfl) .f (hQ _ _ rfl rfl)
 have hlt:¬ ((nodes.length:Int)≤e.node∨(defs.length:Int)≤e.node):=by omega
 refine c0d (s0s ⟨id,ver,time,closed,cancel,defs,nodes,tms,sgs⟩ hf hl) [1,2,3] (by kernel_rfl) rfl rfl ?_
 simp (disch:=omega) only [↓LD,LA,a0A,seval,ren,List.getElem?_nil,stL,rN,rT,rS]
 by_cases hm:e.node∈c0H ⟨id,ver,time,closed,cancel,defs,nodes,tms,sgs⟩
 rotate_left
 ·have hd:=decide_eq_false hm
  repeat' (with_reducible first|refine Wx.h ?_|refine We.h fun K hK=>?_|refine Wd.h fun K M hK hM=>?_|(refine hK _ _ _ _ ?_;clear hK K;try clear hM M)|(refine hM ?_;clear hM M;try clear hK K)|refine Wb.h fun K hK=>?_|(refine hK _ ?_;clear hK K)|(refine Wy.h ?_ ?_;kernel_rfl)|((fail_if_success refine Wz.h ?_);first|simp (disch:=omega) only [↓LD,LA,a0A,seval,LSt,rN,rT,rS,hd,Bool.not_false]|(refine And.intro ?_ ?_;omega)|fail))
  have hb:c0R ⟨id,ver,time,closed,cancel,defs,nodes,tms,sgs⟩ e=(4,⟨id,ver,time,closed,cancel,defs,nodes,tms,sgs⟩):=by
   unfold c0R;rw [if_neg hlt,if_pos (.inl hm)]
  rw [hb] at hQ
  exact end1 rfl rfl (by kernel_rfl) .f (hQ _ _ rfl rfl)
 have hd:=decide_eq_true hm
 have hnl:e.node.toNat<nodes.length:=by omega
 have hdl:e.node.toNat<defs.length:=by omega
 have hb1:=hn2 _ (a0K hdl)
 have hb2:=hn3 _ (a0K hnl)
 repeat' (with_reducible first|refine Wx.h ?_|refine We.h fun K hK=>?_|refine Wd.h fun K M hK hM=>?_|(refine hK _ _ _ _ ?_;clear hK K;try clear hM M)|refine Wb.h fun K hK=>?_|(refine hK _ ?_;clear hK K)|(refine Wy.h ?_ ?_;kernel_rfl)|refine Wq.h ?_ ?_<;>intro h|((fail_if_success refine Wz.h ?_);first|simp (disch:=omega) only [↓LD,LA,a0A,seval,LSt,rN,rT,rS,hd,Bool.not_true,f0t,a0h,List.length_set,b0Q,c0U,Nn.cs]|(refine And.intro ?_ ?_;omega)|fail))
 rotate_left
 ·have hb:c0R ⟨id,ver,time,closed,cancel,defs,nodes,tms,sgs⟩ e=(4,⟨id,ver,time,closed,cancel,defs,nodes,tms,sgs⟩):=by
   unfold c0R;rw [if_neg hlt,if_pos (.inr h)]
  rw [hb] at hQ
  exact end1 rfl rfl (by kernel_rfl) .f (hQ _ _ rfl rfl)
 ·have hb:c0R ⟨id,ver,time,closed,cancel,defs,nodes,tms,sgs⟩ e=(0,⟨id,ver,time,closed,cancel,defs,nodes.set e.node.toNat { gt nodes e.node.toNat with st:=1,tr:=e.n,due:=e.time+(gt defs e.node.toNat).le },tms,sgs⟩):=by
   unfold c0R;rw [if_neg hlt,if_neg]
   intro hh
   rcases hh with hh|hh
   ·exact hh hm
   ·exact hh h
  rw [hb] at hQ
  have e1:(((nodes.flatMap Nn.cs).set (e.node.toNat*4) (.v (.int .i64 1))).set (e.node.toNat*4+1) (.v (.int .i64 e.n))).set (e.node.toNat*4+2) (.v (.int .i64 (e.time+(gt defs e.node.toNat).le)))=(nodes.set e.node.toNat { gt nodes e.node.toNat with st:=1,tr:=e.n,due:=e.time+(gt defs e.node.toNat).le }).flatMap Nn.cs:=by
   have a1:=b0W (cs:=Nn.cs) d0U (j:=0) (x:=.v (.int .i64 1)) (y:={ gt nodes e.node.toNat with st:=1 }) (by omega) hnl rfl
   rw [Nat.add_zero] at a1
   rw [a1]
   rw [b0W (cs:=Nn.cs) d0U (j:=1) (y:={ gt nodes e.node.toNat with st:=1,tr:=e.n }) (by omega) (by rw [List.length_set];exact hnl) (by rw [m0I hnl];try rfl),List.set_set]
   rw [b0W (cs:=Nn.cs) d0U (j:=2) (y:={ gt nodes e.node.toNat with st:=1,tr:=e.n,due:=e.time+(gt defs e.node.toNat).le }) (by omega) (by rw [List.length_set];exact hnl) (by rw [m0I hnl];try rfl),List.set_set]
  rw [e1]
  refine end1 rfl rfl (by kernel_rfl) .f (hQ _ _ rfl ?_)
  simp only [stH,stL,rN,rT,rS,List.length_set]
  rfl
def a0n (s:S12):Int × S12:=if s.cancel=true then (4,s) else (0,{ s with cancel:=true })
theorem t0L (s:S12):Con Tryz.prog 140 [.pt 0 0] (stH s) fun r H'=>r=D.int (a0n s).1∧H'=stH (a0n s).2:=by
 obtain ⟨id,ver,time,closed,cancel,defs,nodes,tms,sgs⟩:=s
 suffices hh:∀ Q:D→List Row→Prop,(∀ r H',r=D.int (a0n ⟨id,ver,time,closed,cancel,defs,nodes,tms,sgs⟩).1→H'=stH (a0n ⟨id,ver,time,closed,cancel,defs,nodes,tms,sgs⟩).2→Q r H')→Con Tryz.prog 140 [.pt 0 0] (stH ⟨id,ver,time,closed,cancel,defs,nodes,tms,sgs⟩) Q from hh _ fun _ _ h1 h2=>⟨h1,h2⟩
 intro Q hQ
 refine Con.walk good p0h (by simp) ?_
 unfold i0F
 simp only [a0I,stH,stL,rN,rT,rS]
 cases cancel
 ·have hb:a0n ⟨id,ver,time,closed,false,defs,nodes,tms,sgs⟩=(0,⟨id,ver,time,closed,true,defs,nodes,tms,sgs⟩):=rfl
  rw [hb] at hQ
  repeat' (with_reducible first|refine Wx.h ?_|refine Wb.h fun K hK=>?_|(refine hK _ ?_;clear hK K)|((fail_if_success refine Wz.h ?_);simp (disch:=omega) only [↓LD,LA,a0A,seval]))
  exact endA rfl rfl (hQ _ _ rfl rfl)
 ·have hb:a0n ⟨id,ver,time,closed,true,defs,nodes,tms,sgs⟩=(4,⟨id,ver,time,closed,true,defs,nodes,tms,sgs⟩):=rfl
  rw [hb] at hQ
  repeat' (with_reducible first|refine Wx.h ?_|refine Wb.h fun K hK=>?_|(refine hK _ ?_;clear hK K)|((fail_if_success refine Wz.h ?_);simp (disch:=omega) only [↓LD,LA,a0A,seval]))
  exact endA rfl rfl (hQ _ _ rfl rfl)
theorem e1Z {id ver time closed:Int}{cancel:Bool}{defs:List Nd}{nodes:List Nn}{tms:List Tm}{sgs:List Sg}{T:TypeId}{H:List Row} :
  Vw (.box T [D.int id,D.int ver,D.int time,D.int closed,D.bool cancel,.f (fG defs),.sl 1 0 nodes.length,.sl 2 0 tms.length,.sl 3 0 sgs.length] :: rN nodes :: rT tms :: rS sgs :: H) (.pt 0 0) (.rf (S12.cs ⟨id,ver,time,closed,cancel,defs,nodes,tms,sgs⟩)):=by
 refine .pt (fs:=S12.cs ⟨id,ver,time,closed,cancel,defs,nodes,tms,sgs⟩) rfl rfl ?_
 intro i d x hd hx
 rcases i with _|_|_|_|_|_|_|_|_|i
 all_goals (simp [S12.cs] at hd hx;try (subst hd;subst hx))
 all_goals first
  | exact .f
  | exact Vw.sl (xs:=nodes.flatMap Nn.cs) rfl (fun e=>by rw [List.eq_nil_of_length_eq_zero e];try rfl)
  | exact Vw.sl (xs:=tms.flatMap Tm.cs) rfl (fun e=>by rw [List.eq_nil_of_length_eq_zero e];try rfl)
  | exact Vw.sl (xs:=sgs.flatMap Sg.cs) rfl (fun e=>by rw [List.eq_nil_of_length_eq_zero e];try rfl)
instance {id ver time closed:Int}{cancel:Bool}{defs:List Nd}{nodes:List Nn}{tms:List Tm}{sgs:List Sg}{k:Int}{H:List Row}{K:D→List Row→Prop}:Wa (a0P Tryz.prog (.fn 162 []) [.pt 0 0,.f (.v (.int .i64 k))] (.box 65 [.f (.v (.int .i64 id)),.f (.v (.int .i64 ver)),.f (.v (.int .i64 time)),.f (.v (.int .i64 closed)),.f (.v (.bool cancel)),.f (fG defs),.sl 1 0 nodes.length,.sl 2 0 tms.length,.sl 3 0 sgs.length] :: .data 158 (nodes.flatMap Nn.cs) :: .data 180 (tms.flatMap Tm.cs) :: .data 106 (sgs.flatMap Sg.cs) :: H) K)
  (nodes.length≤1000000∧K (.f (.v (.int .i64 (cntL nodes k)))) (.box 65 [.f (.v (.int .i64 id)),.f (.v (.int .i64 ver)),.f (.v (.int .i64 time)),.f (.v (.int .i64 closed)),.f (.v (.bool cancel)),.f (fG defs),.sl 1 0 nodes.length,.sl 2 0 tms.length,.sl 3 0 sgs.length] :: .data 158 (nodes.flatMap Nn.cs) :: .data 180 (tms.flatMap Tm.cs) :: .data 106 (sgs.flatMap Sg.cs) :: H)):=⟨fun h=>by
 refine a0X (i0R ⟨id,ver,time,closed,cancel,defs,nodes,tms,sgs⟩ k h.1) (.cons e1Z (.cons .f .nil)) ?_ ?_
 ·rintro _ _ ⟨rfl,rfl⟩
  exact ⟨.f .v,by simp⟩
 ·rintro _ _ ⟨rfl,rfl⟩
  show K (.f (.v (.int .i64 (cntL nodes k)))) (_++[])
  rw [List.append_nil];exact h.2⟩
instance {id ver time closed:Int}{cancel:Bool}{defs:List Nd}{nodes:List Nn}{tms:List Tm}{sgs:List Sg}{k:Int}{H:List Row}{K:Bool→D→List Row→Prop}:Wa (a0k Tryz.prog (.fn 162 []) [.pt 0 0,.f (.v (.int .i64 k))] (.box 65 [.f (.v (.int .i64 id)),.f (.v (.int .i64 ver)),.f (.v (.int .i64 time)),.f (.v (.int .i64 closed)),.f (.v (.bool cancel)),.f (fG defs),.sl 1 0 nodes.length,.sl 2 0 tms.length,.sl 3 0 sgs.length] :: .data 158 (nodes.flatMap Nn.cs) :: .data 180 (tms.flatMap Tm.cs) :: .data 106 (sgs.flatMap Sg.cs) :: H) K)
  (nodes.length≤1000000∧K false (.f (.v (.int .i64 (cntL nodes k)))) (.box 65 [.f (.v (.int .i64 id)),.f (.v (.int .i64 ver)),.f (.v (.int .i64 time)),.f (.v (.int .i64 closed)),.f (.v (.bool cancel)),.f (fG defs),.sl 1 0 nodes.length,.sl 2 0 tms.length,.sl 3 0 sgs.length] :: .data 158 (nodes.flatMap Nn.cs) :: .data 180 (tms.flatMap Tm.cs) :: .data 106 (sgs.flatMap Sg.cs) :: H)):=⟨fun h=>by
 refine c0l (i0R ⟨id,ver,time,closed,cancel,defs,nodes,tms,sgs⟩ k h.1) (.cons e1Z (.cons .f .nil)) ⟨.f .v,by simp⟩ ?_
 show K false (.f (.v (.int .i64 (cntL nodes k)))) (_++[])
 rw [List.append_nil];exact h.2⟩
def a0m (s:S12)(k:Int):Bool:=if k=9 then decide ((cntL s.nodes 2:Int)=s.nodes.length) else if k=10 then decide ((0:Int)<cntL s.nodes 3) else if k=11 then s.cancel&&decide ((cntL s.nodes 1:Int)=0) else true
theorem q0V (s:S12)(k:Int)(hl:s.nodes.length≤1000000):Con Tryz.prog 141 [.pt 0 0,D.int k] (stH s) fun r H'=>r=D.bool (a0m s k)∧H'=stH s:=by
 obtain ⟨id,ver,time,closed,cancel,defs,nodes,tms,sgs⟩:=s
 suffices hh:∀ Q:D→List Row→Prop,(∀ r H',r=D.bool (a0m ⟨id,ver,time,closed,cancel,defs,nodes,tms,sgs⟩ k)→H'=stH ⟨id,ver,time,closed,cancel,defs,nodes,tms,sgs⟩→Q r H')→Con Tryz.prog 141 [.pt 0 0,D.int k] (stH ⟨id,ver,time,closed,cancel,defs,nodes,tms,sgs⟩) Q from hh _ fun _ _ h1 h2=>⟨h1,h2⟩
 intro Q hQ
 cases cancel
 all_goals
  refine Con.walk good n0t (by simp) ?_
  unfold g0Y
  simp only [a0I,stH,stL,rN,rT,rS]
  repeat' (with_reducible first|refine Wx.h ?_|refine We.h fun K hK=>?_|(refine hK _ _ _ _ ?_;clear hK K;try clear hM M)|refine Wb.h fun K hK=>?_|(refine hK _ ?_;clear hK K)|(refine Wy.h ?_ ?_;kernel_rfl)|refine Wq.h ?_ ?_<;>intro h|((fail_if_success refine Wz.h ?_);first|simp (disch:=omega) only [↓LD,LA,a0A,seval]|(refine And.intro ?_ ?_;omega)|fail))
  all_goals (refine end1 rfl rfl (by kernel_rfl) .f (hQ _ _ (congrArg D.bool ?_) rfl);simp_all [a0m])
instance {id ver time closed:Int}{cancel:Bool}{defs:List Nd}{nodes:List Nn}{tms:List Tm}{sgs:List Sg}{nm:Bs}{H:List Row}{K:D→List Row→Prop}:Wa (a0P Tryz.prog (.fn 161 []) [.pt 0 0,.f (.v (.string (BB nm)))] (.box 65 [.f (.v (.int .i64 id)),.f (.v (.int .i64 ver)),.f (.v (.int .i64 time)),.f (.v (.int .i64 closed)),.f (.v (.bool cancel)),.f (fG defs),.sl 1 0 nodes.length,.sl 2 0 tms.length,.sl 3 0 sgs.length] :: .data 158 (nodes.flatMap Nn.cs) :: .data 180 (tms.flatMap Tm.cs) :: .data 106 (sgs.flatMap Sg.cs) :: H) K)
  (tms.length≤1000000∧K (.f (.v (.int .i64 (tmI tms nm)))) (.box 65 [.f (.v (.int .i64 id)),.f (.v (.int .i64 ver)),.f (.v (.int .i64 time)),.f (.v (.int .i64 closed)),.f (.v (.bool cancel)),.f (fG defs),.sl 1 0 nodes.length,.sl 2 0 tms.length,.sl 3 0 sgs.length] :: .data 158 (nodes.flatMap Nn.cs) :: .data 180 (tms.flatMap Tm.cs) :: .data 106 (sgs.flatMap Sg.cs) :: H)):=⟨fun h=>by
 refine a0X (w0d ⟨id,ver,time,closed,cancel,defs,nodes,tms,sgs⟩ nm h.1) (.cons e1Z (.cons .f .nil)) ?_ ?_
 ·rintro _ _ ⟨rfl,rfl⟩
  exact ⟨.f .v,by simp⟩
 ·rintro _ _ ⟨rfl,rfl⟩
  show K (.f (.v (.int .i64 (tmI tms nm)))) (_++[])
  rw [List.append_nil];exact h.2⟩
theorem f1a {id ver time closed:Int}{cancel:Bool}{defs:List Nd}{nodes:List Nn}{tms:List Tm}{sgs:List Sg}{R0:Row}{H:List Row}:Vw (R0 :: .data 158 (nodes.flatMap Nn.cs) :: .data 180 (tms.flatMap Tm.cs) :: .data 106 (sgs.flatMap Sg.cs) :: H) (.ag [.f (.v (.int .i64 id)),.f (.v (.int .i64 ver)),.f (.v (.int .i64 time)),.f (.v (.int .i64 closed)),.f (.v (.bool cancel)),.f (fG defs),.sl 1 0 nodes.length,.sl 2 0 tms.length,.sl 3 0 sgs.length]) (stD ⟨id,ver,time,closed,cancel,defs,nodes,tms,sgs⟩) :=
 .ags (.cons .f (.cons .f (.cons .f (.cons .f (.cons .f (.cons .f (.cons (.sl (xs:=nodes.flatMap Nn.cs) rfl (fun e=>by rw [List.eq_nil_of_length_eq_zero e];try rfl)) (.cons (.sl (xs:=tms.flatMap Tm.cs) rfl (fun e=>by rw [List.eq_nil_of_length_eq_zero e];try rfl)) (.cons (.sl (xs:=sgs.flatMap Sg.cs) rfl (fun e=>by rw [List.eq_nil_of_length_eq_zero e];try rfl)) .nil)))))))))
instance {id ver time closed:Int}{cancel:Bool}{defs:List Nd}{nodes:List Nn}{tms:List Tm}{sgs:List Sg}{nm:Bs}{R0:Row}{H:List Row}{K:Bool→D→List Row→Prop}:Wa (a0k Tryz.prog (.fn 65 []) [.ag [.f (.v (.int .i64 id)),.f (.v (.int .i64 ver)),.f (.v (.int .i64 time)),.f (.v (.int .i64 closed)),.f (.v (.bool cancel)),.f (fG defs),.sl 1 0 nodes.length,.sl 2 0 tms.length,.sl 3 0 sgs.length],.f (.v (.string (BB nm)))] (R0 :: .data 158 (nodes.flatMap Nn.cs) :: .data 180 (tms.flatMap Tm.cs) :: .data 106 (sgs.flatMap Sg.cs) :: H) K)
  (sgs.length≤1000000∧K false (.f (.v (.bool (f0K sgs nm)))) (R0 :: .data 158 (nodes.flatMap Nn.cs) :: .data 180 (tms.flatMap Tm.cs) :: .data 106 (sgs.flatMap Sg.cs) :: H)):=⟨fun h=>by
 refine c0l (c1Z ⟨id,ver,time,closed,cancel,defs,nodes,tms,sgs⟩ nm h.1) (.cons f1a (.cons .f .nil)) ⟨.f .v,by simp⟩ ?_
 show K false (.f (.v (.bool (f0K sgs nm)))) (_++[])
 rw [List.append_nil];exact h.2⟩
theorem a1e {α:Type}(p:α→Bool):∀ (i:Nat) (l:List α),idxF p i l<i+l.length∧(idxF p i l<0→idxF p i l = -1)∧(0≤idxF p i l→(i:Int)≤idxF p i l)
 | i,[]=>by simp [idxF];omega
 | i,x :: l=>by
  have:=a1e p (i+1) l
  simp only [idxF,List.length_cons]
  split<;>omega
theorem v0y (l:List Tm)(nm:Bs):tmI l nm<l.length:=by have:=(a1e (fun x:Tm=>decide (x.name=nm)) 0 l).1;unfold tmI;omega
def endL (s:S12)(e:Ev):Int × S12 :=
 if (s.nodes.length:Int)≤e.node∨(s.defs.length:Int)≤e.node then (1,s)
 else if (gt s.nodes e.node.toNat).st≠1∨e.n≠(gt s.nodes e.node.toNat).tr then (4,s)
 else if e.ty=3 then (0,{ s with nodes:=s.nodes.set e.node.toNat { gt s.nodes e.node.toNat with st:=2,due:=0,data:=e.data } })
 else if (gt s.nodes e.node.toNat).tr=(gt s.defs e.node.toNat).tr then (0,{ s with nodes:=s.nodes.set e.node.toNat { gt s.nodes e.node.toNat with st:=3,due:=0 } })
 else (0,{ s with nodes:=s.nodes.set e.node.toNat { gt s.nodes e.node.toNat with st:=0,due:=0 } })
set_option maxRecDepth 100000 in
theorem t0n (s:S12)(e:Ev)(h0:0≤e.node)(hl:s.nodes.length≤1000000)(hd:e.data.length≤1000000)(hdl:s.defs.length≤1000000) :
  Con Tryz.prog 136 [.pt 0 0,evD e] (stH s) fun r H'=>r=D.int (endL s e).1∧H'=stH (endL s e).2:=by
 obtain ⟨id,ver,time,closed,cancel,defs,nodes,tms,sgs⟩:=s
 dsimp only at hl hd
 suffices hh:∀ Q:D→List Row→Prop,(∀ r H',r=D.int (endL ⟨id,ver,time,closed,cancel,defs,nodes,tms,sgs⟩ e).1→H'=stH (endL ⟨id,ver,time,closed,cancel,defs,nodes,tms,sgs⟩ e).2→Q r H')→Con Tryz.prog 136 [.pt 0 0,evD e] (stH ⟨id,ver,time,closed,cancel,defs,nodes,tms,sgs⟩) Q from hh _ fun _ _ h1 h2=>⟨h1,h2⟩
 intro Q hQ
 refine Con.walk good z0y (by simp) ?_
 unfold v0F
 simp only [a0I,evD,stH,stL,rN,rT,rS]
 repeat' (with_reducible first|refine Wx.h ?_|refine We.h fun K hK=>?_|refine Wd.h fun K M hK hM=>?_|(refine hK _ _ _ _ ?_;clear hK K;try clear hM M)|(refine hM ?_;clear hM M;try clear hK K)|refine Wb.h fun K hK=>?_|(refine hK _ ?_;clear hK K)|(refine Wy.h ?_ ?_;kernel_rfl)|refine Wq.h ?_ ?_<;>intro h|((fail_if_success refine Wz.h ?_);first|simp (disch:=omega) only [↓LD,LA,a0A,seval,LSt,b0z,f0t,e1G,f1N,a0h,List.length_set,List.getElem?_set_ne,b0Y,c0U,Nn.cs]|(refine And.intro ?_ ?_;omega)|fail))
 ·have hb:endL ⟨id,ver,time,closed,cancel,defs,nodes,tms,sgs⟩ e=(1,⟨id,ver,time,closed,cancel,defs,nodes,tms,sgs⟩):=by
   unfold endL;rw [if_pos];dsimp only;omega
  rw [hb] at hQ
  exact end1 rfl rfl (by kernel_rfl) .f (hQ _ _ rfl rfl)
 all_goals have hlo:=(show ¬ ((nodes.length:Int)≤e.node∨(defs.length:Int)≤e.node) by omega)
 ·have hb:endL ⟨id,ver,time,closed,cancel,defs,nodes,tms,sgs⟩ e=(0,⟨id,ver,time,closed,cancel,defs,nodes.set e.node.toNat { gt nodes e.node.toNat with st:=2,due:=0,data:=e.data },tms,sgs⟩):=by
   unfold endL;rw [if_neg hlo,if_neg (by simp_all),if_pos (by assumption)]
  rw [hb] at hQ
  have hnl:e.node.toNat<nodes.length:=by omega
  have e1:((((nodes.flatMap Nn.cs).set (e.node.toNat*4+2) (.v (.int .i64 0))).set (e.node.toNat*4) (.v (.int .i64 2))).set (e.node.toNat*4+3) (fY e.data))=(nodes.set e.node.toNat { gt nodes e.node.toNat with st:=2,due:=0,data:=e.data }).flatMap Nn.cs:=by
   have a1:=b0W (cs:=Nn.cs) d0U (j:=2) (x:=.v (.int .i64 0)) (y:={ gt nodes e.node.toNat with due:=0 }) (by omega) hnl rfl
   rw [a1]
   have a2:=b0W (cs:=Nn.cs) d0U (j:=0) (l:=nodes.set e.node.toNat { gt nodes e.node.toNat with due:=0 }) (k:=e.node.toNat) (x:=.v (.int .i64 2)) (y:={ gt nodes e.node.toNat with due:=0,st:=2 }) (by omega) (by rw [List.length_set];exact hnl) (by rw [m0I hnl];try rfl)
   rw [Nat.add_zero] at a2
   rw [a2,List.set_set]
   rw [b0W (cs:=Nn.cs) d0U (j:=3) (y:={ gt nodes e.node.toNat with due:=0,st:=2,data:=e.data }) (by omega) (by rw [List.length_set];exact hnl) (by rw [m0I hnl];try rfl),List.set_set]
  rw [e1]
  refine end1 rfl rfl (by kernel_rfl) .f (hQ _ _ rfl ?_)
  simp only [stH,stL,rN,rT,rS,List.length_set]
  rfl
 ·have hb:endL ⟨id,ver,time,closed,cancel,defs,nodes,tms,sgs⟩ e=(0,⟨id,ver,time,closed,cancel,defs,nodes.set e.node.toNat { gt nodes e.node.toNat with st:=3,due:=0 },tms,sgs⟩):=by
   unfold endL;rw [if_neg hlo,if_neg (by simp_all),if_neg (by assumption),if_pos (by assumption)]
  rw [hb] at hQ
  have hnl:e.node.toNat<nodes.length:=by omega
  have e1:(((nodes.flatMap Nn.cs).set (e.node.toNat*4+2) (.v (.int .i64 0))).set (e.node.toNat*4) (.v (.int .i64 3)))=(nodes.set e.node.toNat { gt nodes e.node.toNat with st:=3,due:=0 }).flatMap Nn.cs:=by
   have a1:=b0W (cs:=Nn.cs) d0U (j:=2) (x:=.v (.int .i64 0)) (y:={ gt nodes e.node.toNat with due:=0 }) (by omega) hnl rfl
   rw [a1]
   have a2:=b0W (cs:=Nn.cs) d0U (j:=0) (l:=nodes.set e.node.toNat { gt nodes e.node.toNat with due:=0 }) (k:=e.node.toNat) (x:=.v (.int .i64 3)) (y:={ gt nodes e.node.toNat with due:=0,st:=3 }) (by omega) (by rw [List.length_set];exact hnl) (by rw [m0I hnl];try rfl)
   rw [Nat.add_zero] at a2
   rw [a2,List.set_set]
  rw [e1]
  refine end1 rfl rfl (by kernel_rfl) .f (hQ _ _ rfl ?_)
  simp only [stH,stL,rN,rT,rS,List.length_set]
  rfl
 ·have hb:endL ⟨id,ver,time,closed,cancel,defs,nodes,tms,sgs⟩ e=(0,⟨id,ver,time,closed,cancel,defs,nodes.set e.node.toNat { gt nodes e.node.toNat with st:=0,due:=0 },tms,sgs⟩):=by
   unfold endL;rw [if_neg hlo,if_neg (by simp_all),if_neg (by assumption),if_neg (by assumption)]
  rw [hb] at hQ
  have hnl:e.node.toNat<nodes.length:=by omega
  have e1:(((nodes.flatMap Nn.cs).set (e.node.toNat*4+2) (.v (.int .i64 0))).set (e.node.toNat*4) (.v (.int .i64 0)))=(nodes.set e.node.toNat { gt nodes e.node.toNat with st:=0,due:=0 }).flatMap Nn.cs:=by
   have a1:=b0W (cs:=Nn.cs) d0U (j:=2) (x:=.v (.int .i64 0)) (y:={ gt nodes e.node.toNat with due:=0 }) (by omega) hnl rfl
   rw [a1]
   have a2:=b0W (cs:=Nn.cs) d0U (j:=0) (l:=nodes.set e.node.toNat { gt nodes e.node.toNat with due:=0 }) (k:=e.node.toNat) (x:=.v (.int .i64 0)) (y:={ gt nodes e.node.toNat with due:=0,st:=0 }) (by omega) (by rw [List.length_set];exact hnl) (by rw [m0I hnl];try rfl)
   rw [Nat.add_zero] at a2
   rw [a2,List.set_set]
  rw [e1]
  refine end1 rfl rfl (by kernel_rfl) .f (hQ _ _ rfl ?_)
  simp only [stH,stL,rN,rT,rS,List.length_set]
  rfl
 ·have hb:endL ⟨id,ver,time,closed,cancel,defs,nodes,tms,sgs⟩ e=(4,⟨id,ver,time,closed,cancel,defs,nodes,tms,sgs⟩):=by
   unfold endL;rw [if_neg hlo,if_pos (.inr (by assumption))]
  rw [hb] at hQ
  exact end1 rfl rfl (by kernel_rfl) .f (hQ _ _ rfl rfl)
 ·have hb:endL ⟨id,ver,time,closed,cancel,defs,nodes,tms,sgs⟩ e=(4,⟨id,ver,time,closed,cancel,defs,nodes,tms,sgs⟩):=by
   unfold endL;rw [if_neg hlo,if_pos (.inl (by assumption))]
  rw [hb] at hQ
  exact end1 rfl rfl (by kernel_rfl) .f (hQ _ _ rfl rfl)
def c0S (s:S12)(e:Ev):Int × S12 :=
 if tmI s.tms e.name<0 then (4,s)
 else if (gt s.tms (tmI s.tms e.name).toNat).fired=true∨e.time<(gt s.tms (tmI s.tms e.name).toNat).due then (4,s)
 else (0,{ s with tms:=s.tms.set (tmI s.tms e.name).toNat { gt s.tms (tmI s.tms e.name).toNat with fired:=true } })
set_option maxRecDepth 100000 in
theorem x0s (s:S12)(e:Ev)(hl:s.tms.length≤1000000) :
  Con Tryz.prog 138 [.pt 0 0,evD e] (stH s) fun r H'=>r=D.int (c0S s e).1∧H'=stH (c0S s e).2:=by
 obtain ⟨id,ver,time,closed,cancel,defs,nodes,tms,sgs⟩:=s
 dsimp only at hl
 suffices hh:∀ Q:D→List Row→Prop,(∀ r H',r=D.int (c0S ⟨id,ver,time,closed,cancel,defs,nodes,tms,sgs⟩ e).1→H'=stH (c0S ⟨id,ver,time,closed,cancel,defs,nodes,tms,sgs⟩ e).2→Q r H')→Con Tryz.prog 138 [.pt 0 0,evD e] (stH ⟨id,ver,time,closed,cancel,defs,nodes,tms,sgs⟩) Q from hh _ fun _ _ h1 h2=>⟨h1,h2⟩
 intro Q hQ
 refine Con.walk good w0k (by simp) ?_
 unfold r0p
 simp only [a0I,evD,stH,stL,rN,rT,rS]
 have hlt:=v0y tms e.name
 repeat' (with_reducible first|refine Wx.h ?_|refine We.h fun K hK=>?_|refine Wd.h fun K M hK hM=>?_|(refine hK _ _ _ _ ?_;clear hK K;try clear hM M)|(refine hM ?_;clear hM M;try clear hK K)|refine Wb.h fun K hK=>?_|(refine hK _ ?_;clear hK K)|(refine wT ?_ ?_;assumption)|(refine wF ?_ ?_;assumption)|(refine Wy.h ?_ ?_;kernel_rfl)|refine Wq.h ?_ ?_<;>intro h|refine Wu.h ?_ ?_<;>intro h<;>try simp only [h]|((fail_if_success refine Wz.h ?_);first|simp (disch:=omega) only [↓LD,LA,a0A,seval,LSt,g0B,k0C,a1H,e0s,List.length_set,List.getElem?_set_ne,Tm.cs]|(refine And.intro ?_ ?_;omega)|fail))
 ·have hb:c0S ⟨id,ver,time,closed,cancel,defs,nodes,tms,sgs⟩ e=(4,⟨id,ver,time,closed,cancel,defs,nodes,tms,sgs⟩):=by
   unfold c0S;rw [if_pos (by assumption)]
  rw [hb] at hQ
  exact end1 rfl rfl (by kernel_rfl) .f (hQ _ _ rfl rfl)
 ·have hb:c0S ⟨id,ver,time,closed,cancel,defs,nodes,tms,sgs⟩ e=(4,⟨id,ver,time,closed,cancel,defs,nodes,tms,sgs⟩):=by
   unfold c0S;rw [if_neg (by assumption),if_pos (.inl (by assumption))]
  rw [hb] at hQ
  exact end1 rfl rfl (by kernel_rfl) .f (hQ _ _ rfl rfl)
 ·have hb:c0S ⟨id,ver,time,closed,cancel,defs,nodes,tms,sgs⟩ e=(4,⟨id,ver,time,closed,cancel,defs,nodes,tms,sgs⟩):=by
   unfold c0S;rw [if_neg (by assumption),if_pos (.inr (by assumption))]
  rw [hb] at hQ
  exact end1 rfl rfl (by kernel_rfl) .f (hQ _ _ rfl rfl)
 ·have hb:c0S ⟨id,ver,time,closed,cancel,defs,nodes,tms,sgs⟩ e=(0,⟨id,ver,time,closed,cancel,defs,nodes,tms.set (tmI tms e.name).toNat { gt tms (tmI tms e.name).toNat with fired:=true },sgs⟩):=by
   unfold c0S;rw [if_neg (by assumption),if_neg (by simp_all)]
  rw [hb] at hQ
  have hnl:(tmI tms e.name).toNat<tms.length:=by omega
  rw [b0W (cs:=Tm.cs) s0F (j:=2) (y:={ gt tms (tmI tms e.name).toNat with fired:=true }) (by omega) hnl rfl]
  refine end1 rfl rfl (by kernel_rfl) .f (hQ _ _ rfl ?_)
  simp only [stH,stL,rN,rT,rS,List.length_set]
  rfl
instance {ds:List Nd}{H:List Row}{K:D→List Row→Prop}[hf:Kn (Fit ds)]:Wa (a0P Tryz.prog (.fn 158 []) [.f (fG ds)] H K) (K (.f (.v (.int .i64 (a0r ds)))) H) :=
 ⟨fun h=>a0C (j0D ds hf.h) rfl rfl rfl h⟩
def stM:Nat→S12→List Row
 | 0,s=>stH s
 | 1,s=>[.box 65 (stL 4 2 3 s),.dead,rT s.tms,rS s.sgs,rN s.nodes]
 | 2,s=>[.box 65 (stL 1 4 3 s),rN s.nodes,.dead,rS s.sgs,rT s.tms]
 | _,s=>[.box 65 (stL 1 2 4 s),rN s.nodes,rT s.tms,.dead,rS s.sgs]
def armL (s:S12)(e:Ev):Int × S12 :=
 if 0≤tmI s.tms e.name then (13,s) else if 8≤s.tms.length then (4,s)
 else (0,{ s with tms:=s.tms++[(⟨e.name,e.time+e.n,false⟩:Tm)] })
set_option maxRecDepth 100000 in
theorem b1n (s:S12)(e:Ev)(hl:s.tms.length≤1000000)(ht:0≤e.time∧e.time≤1099511627776)(hn:0≤e.n∧e.n≤1048576) :
  Con Tryz.prog 137 [.pt 0 0,evD e] (stH s) fun r H'=>r=D.int (armL s e).1∧(H'=stH (armL s e).2∨H'=stM 2 (armL s e).2):=by
 obtain ⟨id,ver,time,closed,cancel,defs,nodes,tms,sgs⟩:=s
 dsimp only at hl
 suffices hh:∀ Q:D→List Row→Prop,(∀ r H',r=D.int (armL ⟨id,ver,time,closed,cancel,defs,nodes,tms,sgs⟩ e).1→(H'=stH (armL ⟨id,ver,time,closed,cancel,defs,nodes,tms,sgs⟩ e).2∨H'=stM 2 (armL ⟨id,ver,time,closed,cancel,defs,nodes,tms,sgs⟩ e).2)→Q r H')→Con Tryz.prog 137 [.pt 0 0,evD e] (stH ⟨id,ver,time,closed,cancel,defs,nodes,tms,sgs⟩) Q from hh _ fun _ _ h1 h2=>⟨h1,h2⟩
 intro Q hQ
 refine Con.walk good z0Q (by simp) ?_
 unfold v0g
 simp only [a0I,evD,stH,stL,rN,rT,rS]
 repeat' (with_reducible first|refine Wx.h ?_|refine We.h fun K hK=>?_|(refine hK _ _ _ _ ?_;clear hK K;try clear hM M)|refine Wb.h fun K hK=>?_|(refine hK _ ?_;clear hK K)|(refine Wy.h ?_ ?_;kernel_rfl)|refine Wq.h ?_ ?_<;>intro h|((fail_if_success refine Wz.h ?_);first|simp (disch:=omega) only [↓LD,LA,a0A,seval,LSt,e0s]|(refine And.intro ?_ ?_;omega)|fail))
 ·have hb:armL ⟨id,ver,time,closed,cancel,defs,nodes,tms,sgs⟩ e=(13,⟨id,ver,time,closed,cancel,defs,nodes,tms,sgs⟩):=by
   unfold armL;rw [if_pos (by assumption)]
  rw [hb] at hQ
  exact end1 rfl rfl (by kernel_rfl) .f (hQ _ _ rfl (.inl rfl))
 ·have hb:armL ⟨id,ver,time,closed,cancel,defs,nodes,tms,sgs⟩ e=(4,⟨id,ver,time,closed,cancel,defs,nodes,tms,sgs⟩):=by
   unfold armL;rw [if_neg (by assumption),if_pos (show 8≤tms.length by omega)]
  rw [hb] at hQ
  exact end1 rfl rfl (by kernel_rfl) .f (hQ _ _ rfl (.inl rfl))
 ·have hb:armL ⟨id,ver,time,closed,cancel,defs,nodes,tms,sgs⟩ e=(0,⟨id,ver,time,closed,cancel,defs,nodes,tms++[(⟨e.name,e.time+e.n,false⟩:Tm)],sgs⟩):=by
   unfold armL;rw [if_neg (by assumption),if_neg (show ¬ 8≤tms.length by omega)]
  rw [hb] at hQ
  have e1:tms.flatMap Tm.cs++[F.v (.string (BB e.name)),.v (.int .i64 (e.time+e.n)),.v (.bool false)]=(tms++[(⟨e.name,e.time+e.n,false⟩:Tm)]).flatMap Tm.cs:=by simp [Tm.cs]
  have e2:tms.length+1=(tms++[(⟨e.name,e.time+e.n,false⟩:Tm)]).length:=by simp
  rw [e1,e2]
  exact endG rfl rfl (ef:=⟨D.int 0,[(0,.box 65 (stL 1 4 3 ⟨id,ver,time,closed,cancel,defs,nodes,tms++[(⟨e.name,e.time+e.n,false⟩:Tm)],sgs⟩)),(1,rN nodes),(2,.dead),(3,rS sgs)],[rT (tms++[(⟨e.name,e.time+e.n,false⟩:Tm)])]⟩) (by kernel_rfl) (hQ _ _ rfl (.inr rfl))
def a0b (s:S12)(e:Ev):Int × S12 :=
 if f0K s.sgs e.name=true then (13,s) else (0,{ s with sgs:=s.sgs++[(⟨e.name,e.id,e.data⟩:Sg)] })
set_option maxRecDepth 100000 in
theorem s0D (s:S12)(e:Ev)(hl:s.sgs.length≤1000000)(hd:e.data.length≤1000000) :
  Con Tryz.prog 139 [.pt 0 0,evD e] (stH s) fun r H'=>r=D.int (a0b s e).1∧(H'=stH (a0b s e).2∨H'=stM 3 (a0b s e).2):=by
 obtain ⟨id,ver,time,closed,cancel,defs,nodes,tms,sgs⟩:=s
 dsimp only at hl
 suffices hh:∀ Q:D→List Row→Prop,(∀ r H',r=D.int (a0b ⟨id,ver,time,closed,cancel,defs,nodes,tms,sgs⟩ e).1→(H'=stH (a0b ⟨id,ver,time,closed,cancel,defs,nodes,tms,sgs⟩ e).2∨H'=stM 3 (a0b ⟨id,ver,time,closed,cancel,defs,nodes,tms,sgs⟩ e).2)→Q r H')→Con Tryz.prog 139 [.pt 0 0,evD e] (stH ⟨id,ver,time,closed,cancel,defs,nodes,tms,sgs⟩) Q from hh _ fun _ _ h1 h2=>⟨h1,h2⟩
 intro Q hQ
 refine Con.walk good o0n (by simp) ?_
 unfold i0O
 simp only [a0I,evD,stH,stL,rN,rT,rS]
 repeat' (with_reducible first|refine Wx.h ?_|refine We.h fun K hK=>?_|(refine hK _ _ _ _ ?_;clear hK K;try clear hM M)|refine Wb.h fun K hK=>?_|(refine hK _ ?_;clear hK K)|(refine Wy.h ?_ ?_;kernel_rfl)|refine Wq.h ?_ ?_<;>intro h|((fail_if_success refine Wz.h ?_);first|simp (disch:=omega) only [↓LD,LA,a0A,seval,LSt,s0R]|(refine And.intro ?_ ?_;omega)|fail))
 ·have hb:a0b ⟨id,ver,time,closed,cancel,defs,nodes,tms,sgs⟩ e=(13,⟨id,ver,time,closed,cancel,defs,nodes,tms,sgs⟩):=by
   unfold a0b;rw [if_pos (by assumption)]
  rw [hb] at hQ
  exact end1 rfl rfl (by kernel_rfl) .f (hQ _ _ rfl (.inl rfl))
 ·have hb:a0b ⟨id,ver,time,closed,cancel,defs,nodes,tms,sgs⟩ e=(0,⟨id,ver,time,closed,cancel,defs,nodes,tms,sgs++[(⟨e.name,e.id,e.data⟩:Sg)]⟩):=by
   unfold a0b;rw [if_neg (by simp_all)]
  rw [hb] at hQ
  have e1:sgs.flatMap Sg.cs++[F.v (.string (BB e.name)),.v (.int .i64 e.id),fY e.data]=(sgs++[(⟨e.name,e.id,e.data⟩:Sg)]).flatMap Sg.cs:=by simp [Sg.cs]
  have e2:sgs.length+1=(sgs++[(⟨e.name,e.id,e.data⟩:Sg)]).length:=by simp
  rw [e1,e2]
  exact endG rfl rfl (ef:=⟨D.int 0,[(0,.box 65 (stL 1 2 4 ⟨id,ver,time,closed,cancel,defs,nodes,tms,sgs++[(⟨e.name,e.id,e.data⟩:Sg)]⟩)),(1,rN nodes),(2,rT tms),(3,.dead)],[rS (sgs++[(⟨e.name,e.id,e.data⟩:Sg)])]⟩) (by kernel_rfl) (hQ _ _ rfl (.inr rfl))
def nd0:Nn:=⟨0,0,0,[]⟩
theorem f1i (n:Nat):∀ (i:Nat) (x y:F),((List.range (n*4)).map (fun j=>[F.v (.int .i64 0),F.v (.int .i64 0),F.v (.int .i64 0),F.v (.slice none 0 0)].getD (j % 4) (.v Go.undef)))[i]?=some x →
  ((List.replicate n nd0).flatMap Nn.cs)[i]?=some y→x=y∨(x = .v (.slice none 0 0)∧y = .s [] 0):=by
 intro i x y hx hy
 have hi:i<n*4:=by have:=(List.getElem?_eq_some_iff.1 hx).1;simpa using this
 rw [List.getElem?_map,List.getElem?_range hi] at hx
 obtain ⟨k,j,rfl,hj⟩:∃ k j,i=k*4+j∧j<4:=⟨i / 4,i % 4,by omega,by omega⟩
 have hk:k<(List.replicate n nd0).length:=by rw [List.length_replicate];omega
 rw [a0u d0U hk hj,show gt (List.replicate n nd0) k=nd0 by rw [b0P hk];simp] at hy
 rw [Option.map_some,show (k*4+j) % 4=j by omega] at hx
 rcases j with _|_|_|_|j
 all_goals (simp [nd0,Nn.cs] at hx hy;try (subst hx;subst hy;first|exact .inl rfl|exact .inr ⟨rfl,rfl⟩))
def c0p (s:S12)(e:Ev):Int × S12 :=
 if a0r e.defs=0 then (0,{ s with defs:=e.defs,nodes:=List.replicate e.defs.length nd0 }) else (1,s)
set_option maxRecDepth 100000 in
theorem x0k (s:S12)(e:Ev)(hf:Fit e.defs)(hd:e.data.length≤1000000) :
  Con Tryz.prog 134 [.pt 0 0,evD e] (stH s) fun r H'=>r=D.int (c0p s e).1∧(H'=stH (c0p s e).2∨H'=stM 1 (c0p s e).2):=by
 obtain ⟨id,ver,time,closed,cancel,defs,nodes,tms,sgs⟩:=s
 suffices hh:∀ Q:D→List Row→Prop,(∀ r H',r=D.int (c0p ⟨id,ver,time,closed,cancel,defs,nodes,tms,sgs⟩ e).1→(H'=stH (c0p ⟨id,ver,time,closed,cancel,defs,nodes,tms,sgs⟩ e).2∨H'=stM 1 (c0p ⟨id,ver,time,closed,cancel,defs,nodes,tms,sgs⟩ e).2)→Q r H')→Con Tryz.prog 134 [.pt 0 0,evD e] (stH ⟨id,ver,time,closed,cancel,defs,nodes,tms,sgs⟩) Q from hh _ fun _ _ h1 h2=>⟨h1,h2⟩
 intro Q hQ
 refine Con.walk good s0S (by simp) ?_
 unfold k0q
 simp only [a0I,evD,stH,stL,rN,rT,rS]
 haveI:Kn (Fit e.defs):=⟨hf⟩
 repeat' (with_reducible first|refine Wx.h ?_|refine Wb.h fun K hK=>?_|(refine hK _ ?_;clear hK K)|refine Wq.h ?_ ?_<;>intro h|((fail_if_success refine Wz.h ?_);simp (disch:=omega) only [↓LD,LA,a0A,seval,LSt]))
 ·refine ⟨⟨fun d hd'=>hf.2 d hd',by have:=hf.1;omega,hd⟩,?_⟩
  have hf1:=hf.1
  repeat' (with_reducible first|refine Wa.h ?_|refine Ws.h ?_|refine Wb.h fun K hK=>?_|(refine hK _ ?_;clear hK K)|((fail_if_success refine Wz.h ?_);first|simp (disch:=omega) only [↓LD,LA,a0A,seval,LSt,evD]|(refine And.intro ?_ ?_;omega)|fail))
  refine HS.view (View.wkd 5 ((List.replicate e.defs.length nd0).flatMap Nn.cs) rfl (by rw [List.length_map,List.length_range,a0h,List.length_replicate]) (f1i _)) ?_
  refine HS.view (View.shed 1 rfl) ?_
  repeat' (with_reducible first|refine Wx.h ?_|fail)
  have hb:c0p ⟨id,ver,time,closed,cancel,defs,nodes,tms,sgs⟩ e=(0,⟨id,ver,time,closed,cancel,e.defs,List.replicate e.defs.length nd0,tms,sgs⟩):=by
   unfold c0p;rw [if_pos (by assumption)]
  rw [hb] at hQ
  have hrl:(List.replicate e.defs.length nd0).length=e.defs.length:=by simp
  generalize List.replicate e.defs.length nd0=ns at hQ hrl ⊢
  refine endG rfl rfl (ef:=⟨D.int 0,[(0,.box 65 (stL 4 2 3 ⟨id,ver,time,closed,cancel,e.defs,ns,tms,sgs⟩)),(1,.dead),(2,rT tms),(3,rS sgs)],[rN ns]⟩) ?_ (hQ _ _ rfl (.inr rfl))
  rw [stL,hrl]
  kernel_rfl
 ·have hb:c0p ⟨id,ver,time,closed,cancel,defs,nodes,tms,sgs⟩ e=(1,⟨id,ver,time,closed,cancel,defs,nodes,tms,sgs⟩):=by
   unfold c0p;rw [if_neg (by assumption)]
  rw [hb] at hQ
  exact end1 rfl rfl (by kernel_rfl) .f (hQ _ _ rfl (.inl rfl))
def b0i (s:S12)(e:Ev):Int × S12 :=
 if e.ty=1 then c0p s e else if e.ty=2 then c0R s e else if e.ty=3∨e.ty=4 then endL s e else if e.ty=5 then armL s e
 else if e.ty=6 then c0S s e else if e.ty=7 then a0b s e else if e.ty=8 then a0n s
 else if a0m s e.ty=true then (0,{ s with closed:=e.ty }) else (4,s)
def c0M (s:S12)(e:Ev):Int × S12 :=
 if b0H e=false∨e.id≠s.id+1∨e.ver<s.ver∨e.time<s.time then (1,s)
 else if s.closed≠0 then (12,s)
 else if decide (s.id=0)≠decide (e.ty=1) then (4,s)
 else ((b0i s e).1,{ (b0i s e).2 with id:=e.id,ver:=e.ver,time:=e.time })
def s0:S12:=⟨0,0,0,0,false,[],[],[],[]⟩
def b1b (s:S12)(e:Ev):Int × S12:=if (c0M s e).1=0 then (0,(c0M s e).2) else ((c0M s e).1,s0)
structure FitA (s:S12):Prop where
 fit:FitS s
 defs:Fit s.defs
 le:∀ d∈s.defs,0≤d.le∧d.le≤1048576
 tr:∀ x∈s.nodes,0≤x.tr∧x.tr≤1000000
structure FitE (e:Ev):Prop where
 time:0≤e.time∧e.time≤1099511627776
 n:e.ty=5→0≤e.n∧e.n≤1048576
 node:0≤e.node
 data:e.data.length≤1000000
 defs:Fit e.defs
set_option maxRecDepth 100000 in
theorem z0k (s:S12)(e:Ev)(hs:FitA s)(he:FitE e) :
  Con Tryz.prog 93 [.pt 0 0,evD e] (stH s) fun r H'=>r=D.int (b0i s e).1∧∃ m,H'=stM m (b0i s e).2:=by
 obtain ⟨id,ver,time,closed,cancel,defs,nodes,tms,sgs⟩:=s
 suffices hh:∀ Q:D→List Row→Prop,(∀ r H',r=D.int (b0i ⟨id,ver,time,closed,cancel,defs,nodes,tms,sgs⟩ e).1→(∃ m,H'=stM m (b0i ⟨id,ver,time,closed,cancel,defs,nodes,tms,sgs⟩ e).2)→Q r H')→Con Tryz.prog 93 [.pt 0 0,evD e] (stH ⟨id,ver,time,closed,cancel,defs,nodes,tms,sgs⟩) Q from hh _ fun _ _ h1 h2=>⟨h1,h2⟩
 intro Q hQ
 refine Con.walk good x0C (by simp) ?_
 unfold q0l
 simp only [a0I,evD,stH,stL,rN,rT,rS]
 have hnl:=hs.fit.nodes
 have htl:=hs.fit.tms
 have hsl:=hs.fit.sgs
 have hdl:=hs.fit.defs.2
 repeat' (with_reducible first|refine Wx.h ?_|refine Wb.h fun K hK=>?_|(refine hK _ ?_;clear hK K)|refine Wq.h ?_ ?_<;>intro h|((fail_if_success refine Wz.h ?_);simp (disch:=omega) only [↓LD,LA,a0A,seval,LSt]))
 ·have hb:b0i ⟨id,ver,time,closed,cancel,defs,nodes,tms,sgs⟩ e=c0p ⟨id,ver,time,closed,cancel,defs,nodes,tms,sgs⟩ e:=by simp [b0i, *]
  rw [hb] at hQ
  refine a0J (x0k ⟨id,ver,time,closed,cancel,defs,nodes,tms,sgs⟩ e he.defs he.data) [0,1,2,3] (by kernel_rfl) rfl rfl ?_
  rintro _ _ ⟨rfl,hH⟩
  generalize c0p ⟨id,ver,time,closed,cancel,defs,nodes,tms,sgs⟩ e=p at hQ hH ⊢
  obtain ⟨v,s'⟩:=p
  dsimp only at hQ hH ⊢
  rcases hH with rfl|rfl
  ·simp (disch:=omega) only [↓LD,LA,a0A,seval,ren,List.getElem?_nil,stM,stH,stL,rN,rT,rS]
   repeat' (with_reducible first|refine Wx.h ?_|(refine hK _ ?_;clear hK K)|((fail_if_success refine Wz.h ?_);simp (disch:=omega) only [↓LD,LA,a0A,seval]))
   exact end1 rfl rfl (by kernel_rfl) .f (hQ _ _ rfl ⟨0,rfl⟩)
  ·simp (disch:=omega) only [↓LD,LA,a0A,seval,ren,List.getElem?_nil,stM,stH,stL,rN,rT,rS]
   repeat' (with_reducible first|refine Wx.h ?_|(refine hK _ ?_;clear hK K)|((fail_if_success refine Wz.h ?_);simp (disch:=omega) only [↓LD,LA,a0A,seval]))
   exact endG rfl rfl (ef:=⟨D.int v,[(0,.box 65 (stL 4 2 3 s')),(1,.dead),(2,rT s'.tms),(3,rS s'.sgs)],[rN s'.nodes]⟩) (by kernel_rfl) (hQ _ _ rfl ⟨1,rfl⟩)
 ·have hb:b0i ⟨id,ver,time,closed,cancel,defs,nodes,tms,sgs⟩ e=c0R ⟨id,ver,time,closed,cancel,defs,nodes,tms,sgs⟩ e:=by simp [b0i, *]
  rw [hb] at hQ
  refine a0J (x0g ⟨id,ver,time,closed,cancel,defs,nodes,tms,sgs⟩ e (⟨he.time,hs.le,hs.tr⟩) he.node hs.defs hnl) [0,1,2,3] (by kernel_rfl) rfl rfl ?_
  rintro _ _ ⟨rfl,hH⟩
  generalize c0R ⟨id,ver,time,closed,cancel,defs,nodes,tms,sgs⟩ e=p at hQ hH ⊢
  obtain ⟨v,s'⟩:=p
  dsimp only at hQ hH ⊢
  subst hH
  simp (disch:=omega) only [↓LD,LA,a0A,seval,ren,List.getElem?_nil,stM,stH,stL,rN,rT,rS]
  repeat' (with_reducible first|refine Wx.h ?_|(refine hK _ ?_;clear hK K)|((fail_if_success refine Wz.h ?_);simp (disch:=omega) only [↓LD,LA,a0A,seval]))
  exact end1 rfl rfl (by kernel_rfl) .f (hQ _ _ rfl ⟨0,rfl⟩)
 ·have hb:b0i ⟨id,ver,time,closed,cancel,defs,nodes,tms,sgs⟩ e=endL ⟨id,ver,time,closed,cancel,defs,nodes,tms,sgs⟩ e:=by simp [b0i, *]
  rw [hb] at hQ
  refine a0J (t0n ⟨id,ver,time,closed,cancel,defs,nodes,tms,sgs⟩ e he.node hnl he.data hdl) [0,1,2,3] (by kernel_rfl) rfl rfl ?_
  rintro _ _ ⟨rfl,hH⟩
  generalize endL ⟨id,ver,time,closed,cancel,defs,nodes,tms,sgs⟩ e=p at hQ hH ⊢
  obtain ⟨v,s'⟩:=p
  dsimp only at hQ hH ⊢
  subst hH
  simp (disch:=omega) only [↓LD,LA,a0A,seval,ren,List.getElem?_nil,stM,stH,stL,rN,rT,rS]
  repeat' (with_reducible first|refine Wx.h ?_|(refine hK _ ?_;clear hK K)|((fail_if_success refine Wz.h ?_);simp (disch:=omega) only [↓LD,LA,a0A,seval]))
  exact end1 rfl rfl (by kernel_rfl) .f (hQ _ _ rfl ⟨0,rfl⟩)
 ·have hb:b0i ⟨id,ver,time,closed,cancel,defs,nodes,tms,sgs⟩ e=endL ⟨id,ver,time,closed,cancel,defs,nodes,tms,sgs⟩ e:=by simp [b0i, *]
  rw [hb] at hQ
  refine a0J (t0n ⟨id,ver,time,closed,cancel,defs,nodes,tms,sgs⟩ e he.node hnl he.data hdl) [0,1,2,3] (by kernel_rfl) rfl rfl ?_
  rintro _ _ ⟨rfl,hH⟩
  generalize endL ⟨id,ver,time,closed,cancel,defs,nodes,tms,sgs⟩ e=p at hQ hH ⊢
  obtain ⟨v,s'⟩:=p
  dsimp only at hQ hH ⊢
  subst hH
  simp (disch:=omega) only [↓LD,LA,a0A,seval,ren,List.getElem?_nil,stM,stH,stL,rN,rT,rS]
  repeat' (with_reducible first|refine Wx.h ?_|(refine hK _ ?_;clear hK K)|((fail_if_success refine Wz.h ?_);simp (disch:=omega) only [↓LD,LA,a0A,seval]))
  exact end1 rfl rfl (by kernel_rfl) .f (hQ _ _ rfl ⟨0,rfl⟩)
 ·have hb:b0i ⟨id,ver,time,closed,cancel,defs,nodes,tms,sgs⟩ e=armL ⟨id,ver,time,closed,cancel,defs,nodes,tms,sgs⟩ e:=by simp [b0i, *]
  rw [hb] at hQ
  refine a0J (b1n ⟨id,ver,time,closed,cancel,defs,nodes,tms,sgs⟩ e htl he.time (he.n h)) [0,1,2,3] (by kernel_rfl) rfl rfl ?_
  rintro _ _ ⟨rfl,hH⟩
  generalize armL ⟨id,ver,time,closed,cancel,defs,nodes,tms,sgs⟩ e=p at hQ hH ⊢
  obtain ⟨v,s'⟩:=p
  dsimp only at hQ hH ⊢
  rcases hH with rfl|rfl
  ·simp (disch:=omega) only [↓LD,LA,a0A,seval,ren,List.getElem?_nil,stM,stH,stL,rN,rT,rS]
   repeat' (with_reducible first|refine Wx.h ?_|(refine hK _ ?_;clear hK K)|((fail_if_success refine Wz.h ?_);simp (disch:=omega) only [↓LD,LA,a0A,seval]))
   exact end1 rfl rfl (by kernel_rfl) .f (hQ _ _ rfl ⟨0,rfl⟩)
  ·simp (disch:=omega) only [↓LD,LA,a0A,seval,ren,List.getElem?_nil,stM,stH,stL,rN,rT,rS]
   repeat' (with_reducible first|refine Wx.h ?_|(refine hK _ ?_;clear hK K)|((fail_if_success refine Wz.h ?_);simp (disch:=omega) only [↓LD,LA,a0A,seval]))
   exact endG rfl rfl (ef:=⟨D.int v,[(0,.box 65 (stL 1 4 3 s')),(1,rN s'.nodes),(2,.dead),(3,rS s'.sgs)],[rT s'.tms]⟩) (by kernel_rfl) (hQ _ _ rfl ⟨2,rfl⟩)
 ·have hb:b0i ⟨id,ver,time,closed,cancel,defs,nodes,tms,sgs⟩ e=c0S ⟨id,ver,time,closed,cancel,defs,nodes,tms,sgs⟩ e:=by simp [b0i, *]
  rw [hb] at hQ
  refine a0J (x0s ⟨id,ver,time,closed,cancel,defs,nodes,tms,sgs⟩ e htl) [0,1,2,3] (by kernel_rfl) rfl rfl ?_
  rintro _ _ ⟨rfl,hH⟩
  generalize c0S ⟨id,ver,time,closed,cancel,defs,nodes,tms,sgs⟩ e=p at hQ hH ⊢
  obtain ⟨v,s'⟩:=p
  dsimp only at hQ hH ⊢
  subst hH
  simp (disch:=omega) only [↓LD,LA,a0A,seval,ren,List.getElem?_nil,stM,stH,stL,rN,rT,rS]
  repeat' (with_reducible first|refine Wx.h ?_|(refine hK _ ?_;clear hK K)|((fail_if_success refine Wz.h ?_);simp (disch:=omega) only [↓LD,LA,a0A,seval]))
  exact end1 rfl rfl (by kernel_rfl) .f (hQ _ _ rfl ⟨0,rfl⟩)
 ·have hb:b0i ⟨id,ver,time,closed,cancel,defs,nodes,tms,sgs⟩ e=a0b ⟨id,ver,time,closed,cancel,defs,nodes,tms,sgs⟩ e:=by simp [b0i, *]
  rw [hb] at hQ
  refine a0J (s0D ⟨id,ver,time,closed,cancel,defs,nodes,tms,sgs⟩ e hsl he.data) [0,1,2,3] (by kernel_rfl) rfl rfl ?_
  rintro _ _ ⟨rfl,hH⟩
  generalize a0b ⟨id,ver,time,closed,cancel,defs,nodes,tms,sgs⟩ e=p at hQ hH ⊢
  obtain ⟨v,s'⟩:=p
  dsimp only at hQ hH ⊢
  rcases hH with rfl|rfl
  ·simp (disch:=omega) only [↓LD,LA,a0A,seval,ren,List.getElem?_nil,stM,stH,stL,rN,rT,rS]
   repeat' (with_reducible first|refine Wx.h ?_|(refine hK _ ?_;clear hK K)|((fail_if_success refine Wz.h ?_);simp (disch:=omega) only [↓LD,LA,a0A,seval]))
   exact end1 rfl rfl (by kernel_rfl) .f (hQ _ _ rfl ⟨0,rfl⟩)
  ·simp (disch:=omega) only [↓LD,LA,a0A,seval,ren,List.getElem?_nil,stM,stH,stL,rN,rT,rS]
   repeat' (with_reducible first|refine Wx.h ?_|(refine hK _ ?_;clear hK K)|((fail_if_success refine Wz.h ?_);simp (disch:=omega) only [↓LD,LA,a0A,seval]))
   exact endG rfl rfl (ef:=⟨D.int v,[(0,.box 65 (stL 1 2 4 s')),(1,rN s'.nodes),(2,rT s'.tms),(3,.dead)],[rS s'.sgs]⟩) (by kernel_rfl) (hQ _ _ rfl ⟨3,rfl⟩)
 ·have hb:b0i ⟨id,ver,time,closed,cancel,defs,nodes,tms,sgs⟩ e=a0n ⟨id,ver,time,closed,cancel,defs,nodes,tms,sgs⟩:=by simp [b0i, *]
  rw [hb] at hQ
  refine a0J (t0L ⟨id,ver,time,closed,cancel,defs,nodes,tms,sgs⟩) [0,1,2,3] (by kernel_rfl) rfl rfl ?_
  rintro _ _ ⟨rfl,hH⟩
  generalize a0n ⟨id,ver,time,closed,cancel,defs,nodes,tms,sgs⟩=p at hQ hH ⊢
  obtain ⟨v,s'⟩:=p
  dsimp only at hQ hH ⊢
  subst hH
  simp (disch:=omega) only [↓LD,LA,a0A,seval,ren,List.getElem?_nil,stM,stH,stL,rN,rT,rS]
  repeat' (with_reducible first|refine Wx.h ?_|(refine hK _ ?_;clear hK K)|((fail_if_success refine Wz.h ?_);simp (disch:=omega) only [↓LD,LA,a0A,seval]))
  exact end1 rfl rfl (by kernel_rfl) .f (hQ _ _ rfl ⟨0,rfl⟩)
 refine a0J (q0V ⟨id,ver,time,closed,cancel,defs,nodes,tms,sgs⟩ e.ty hnl) [0,1,2,3] (by kernel_rfl) rfl rfl ?_
 rintro _ _ ⟨rfl,rfl⟩
 simp (disch:=omega) only [↓LD,LA,a0A,seval,ren,List.getElem?_nil,stM,stH,stL,rN,rT,rS]
 repeat' (with_reducible first|refine Wx.h ?_|refine Wb.h fun K hK=>?_|(refine hK _ ?_;clear hK K)|refine Wq.h ?_ ?_<;>intro h|((fail_if_success refine Wz.h ?_);simp (disch:=omega) only [↓LD,LA,a0A,seval,Bool.not_eq_true']))
 ·have hc:a0m ⟨id,ver,time,closed,cancel,defs,nodes,tms,sgs⟩ e.ty=false:=by simpa using h
  have hb:b0i ⟨id,ver,time,closed,cancel,defs,nodes,tms,sgs⟩ e=(4,⟨id,ver,time,closed,cancel,defs,nodes,tms,sgs⟩):=by simp [b0i, *]
  rw [hb] at hQ
  exact end1 rfl rfl (by kernel_rfl) .f (hQ _ _ rfl ⟨0,rfl⟩)
 ·have hc:a0m ⟨id,ver,time,closed,cancel,defs,nodes,tms,sgs⟩ e.ty=true:=by simp_all
  have hb:b0i ⟨id,ver,time,closed,cancel,defs,nodes,tms,sgs⟩ e=(0,⟨id,ver,time,e.ty,cancel,defs,nodes,tms,sgs⟩):=by simp [b0i, *]
  rw [hb] at hQ
  exact end1 rfl rfl (by kernel_rfl) .f (hQ _ _ rfl ⟨0,rfl⟩)
theorem fitE {e:Ev}(h:b0H e=true)(hd:e.data.length≤1000000)(hf:Fit e.defs):FitE e:=by
 unfold b0H at h
 simp only [Bool.and_eq_true] at h
 obtain ⟨⟨⟨⟨⟨⟨h1,h2⟩,h3⟩,h4⟩,h5⟩,h6⟩,h7⟩:=h
 simp only [inI,Bool.and_eq_true,decide_eq_true_eq] at h4
 simp only [numB,Bool.and_eq_true] at h5
 obtain ⟨⟨⟨g1,g2⟩,g3⟩,g4⟩:=h5
 simp only [inI,Bool.and_eq_true,decide_eq_true_eq] at g3
 refine ⟨h4,fun e5=>?_,g3.1,hd,hf⟩
 rw [e5] at g4
 simp [pN,s0P,inI] at g4
 omega
class Vb (x:Bool)(b:outParam Bool):Prop where h:x=b
instance {e:Ev}{b:Bool}{H:List Row}{K:Bool→D→List Row→Prop}[hb:Vb (b0H e) b][hf:Small e.defs]:Wa (a0k Tryz.prog (.fn 60 []) [.ag [.f (.v (.int .i64 e.id)),.f (.v (.int .i64 e.ver)),.f (.v (.int .i64 e.time)),.f (.v (.int .i64 e.ty)),.f (.v (.int .i64 e.node)),.f (.v (.int .i64 e.n)),.f (.v (.string (BB e.name))),.f (fY e.data),.f (fG e.defs)]] H K)
  (K true (.f (.v (.bool b))) H):=⟨fun h=>by rw [←hb.h] at h;exact a0M (x0K e hf.h.1 hf.h.2) rfl rfl rfl h⟩
set_option maxRecDepth 100000 in
theorem w0p (s:S12)(e:Ev)(hs:FitA s)(hd:e.data.length≤1000000)(hf:Fit e.defs)(hi:0≤s.id∧s.id<1000000000) :
    Con Tryz.prog 59 [.pt 0 0,evD e] (stH s) fun r H'=>r=D.int (c0M s e).1∧∃ m,H'=stM m (c0M s e).2:=by
  obtain ⟨id,ver,time,closed,cancel,defs,nodes,tms,sgs⟩:=s
  suffices hh:∀ Q:D→List Row→Prop,(∀ r H',r=D.int (c0M ⟨id,ver,time,closed,cancel,defs,nodes,tms,sgs⟩ e).1→(∃ m,H'=stM m (c0M ⟨id,ver,time,closed,cancel,defs,nodes,tms,sgs⟩ e).2)→Q r H')→Con Tryz.prog 59 [.pt 0 0,evD e] (stH ⟨id,ver,time,closed,cancel,defs,nodes,tms,sgs⟩) Q from hh _ fun _ _ h1 h2=>⟨h1,h2⟩
  intro Q hQ
  haveI:Small e.defs:=⟨⟨fun d hd=>hf.2 d hd,by have:=hf.1;omega⟩⟩
  refine Con.walk good t0Y (by simp) ?_
  unfold m0C
  simp only [a0I,evD,stH,stL,rN,rT,rS]
  obtain ⟨hi1,hi2⟩:=hi
  dsimp only at hi1 hi2
  cases hre:b0H e
  all_goals
    haveI:Vb (b0H e) _:=⟨hre⟩
    repeat' (with_reducible first|refine Wx.h ?_|refine We.h fun K hK=>?_|refine Wd.h fun K M hK hM=>?_|(refine hK _ _ _ _ ?_;clear hK K;try clear hM M)|(refine hM ?_;clear hM M;try clear hK K)|refine Wb.h fun K hK=>?_|(refine hK _ ?_;clear hK K)|(refine Wy.h ?_ ?_;kernel_rfl)|refine Wq.h ?_ ?_<;>intro h|((fail_if_success refine Wz.h ?_);simp (disch:=omega) only [↓LD,LA,a0A,seval,LSt]))
  all_goals first
    | (have hb:c0M ⟨id,ver,time,closed,cancel,defs,nodes,tms,sgs⟩ e=(1,⟨id,ver,time,closed,cancel,defs,nodes,tms,sgs⟩):=by (unfold c0M;rw [if_pos (by simp_all)])
       rw [hb] at hQ
       exact end1 rfl rfl (by kernel_rfl) .f (hQ _ _ rfl ⟨0,rfl⟩))
    | (have hb:c0M ⟨id,ver,time,closed,cancel,defs,nodes,tms,sgs⟩ e=(12,⟨id,ver,time,closed,cancel,defs,nodes,tms,sgs⟩):=by (unfold c0M;rw [if_neg (by simp_all),if_pos (by assumption)])
       rw [hb] at hQ
       exact end1 rfl rfl (by kernel_rfl) .f (hQ _ _ rfl ⟨0,rfl⟩))
    | (have hb:c0M ⟨id,ver,time,closed,cancel,defs,nodes,tms,sgs⟩ e=(4,⟨id,ver,time,closed,cancel,defs,nodes,tms,sgs⟩):=by (unfold c0M;rw [if_neg (by simp_all),if_neg (by simp_all),if_pos (by simp_all)])
       rw [hb] at hQ
       exact end1 rfl rfl (by kernel_rfl) .f (hQ _ _ rfl ⟨0,rfl⟩))
    | skip
  all_goals
    have hb:c0M ⟨id,ver,time,closed,cancel,defs,nodes,tms,sgs⟩ e=((b0i ⟨id,ver,time,closed,cancel,defs,nodes,tms,sgs⟩ e).1,{ (b0i ⟨id,ver,time,closed,cancel,defs,nodes,tms,sgs⟩ e).2 with id:=e.id,ver:=e.ver,time:=e.time }):=by
      unfold c0M;rw [if_neg (by simp_all),if_neg (by simp_all),if_neg (by simp_all)]
    rw [hb] at hQ
    refine a0J (z0k ⟨id,ver,time,closed,cancel,defs,nodes,tms,sgs⟩ e hs (fitE hre hd hf)) [0,1,2,3] (by kernel_rfl) rfl rfl ?_
    rintro _ _ ⟨rfl,m,rfl⟩
    generalize b0i ⟨id,ver,time,closed,cancel,defs,nodes,tms,sgs⟩ e=p at hQ ⊢
    obtain ⟨v,s'⟩:=p
    dsimp only at hQ ⊢
    rcases m with _|_|_|m
    · simp (disch:=omega) only [↓LD,LA,a0A,seval,ren,List.getElem?_nil,stM,stH,stL,rN,rT,rS]
      repeat' (with_reducible first|refine Wx.h ?_|refine We.h fun K hK=>?_|(refine hK _ _ _ _ ?_;clear hK K;try clear hM M)|refine Wb.h fun K hK=>?_|(refine hK _ ?_;clear hK K)|(refine Wy.h ?_ ?_;kernel_rfl)|((fail_if_success refine Wz.h ?_);simp (disch:=omega) only [↓LD,LA,a0A,seval]))
      exact end1 rfl rfl (by kernel_rfl) .f (hQ _ _ rfl ⟨0,rfl⟩)
    · simp (disch:=omega) only [↓LD,LA,a0A,seval,ren,List.getElem?_nil,stM,stH,stL,rN,rT,rS]
      repeat' (with_reducible first|refine Wx.h ?_|refine We.h fun K hK=>?_|(refine hK _ _ _ _ ?_;clear hK K;try clear hM M)|refine Wb.h fun K hK=>?_|(refine hK _ ?_;clear hK K)|(refine Wy.h ?_ ?_;kernel_rfl)|((fail_if_success refine Wz.h ?_);simp (disch:=omega) only [↓LD,LA,a0A,seval]))
      exact endG rfl rfl (ef:=⟨D.int v,[(0,.box 65 (stL 4 2 3 ⟨e.id,e.ver,e.time,s'.closed,s'.cancel,s'.defs,s'.nodes,s'.tms,s'.sgs⟩)),(1,.dead),(2,rT s'.tms),(3,rS s'.sgs)],[rN s'.nodes]⟩) (by kernel_rfl) (hQ _ _ rfl ⟨1,rfl⟩)
    · simp (disch:=omega) only [↓LD,LA,a0A,seval,ren,List.getElem?_nil,stM,stH,stL,rN,rT,rS]
      repeat' (with_reducible first|refine Wx.h ?_|refine We.h fun K hK=>?_|(refine hK _ _ _ _ ?_;clear hK K;try clear hM M)|refine Wb.h fun K hK=>?_|(refine hK _ ?_;clear hK K)|(refine Wy.h ?_ ?_;kernel_rfl)|((fail_if_success refine Wz.h ?_);simp (disch:=omega) only [↓LD,LA,a0A,seval]))
      exact endG rfl rfl (ef:=⟨D.int v,[(0,.box 65 (stL 1 4 3 ⟨e.id,e.ver,e.time,s'.closed,s'.cancel,s'.defs,s'.nodes,s'.tms,s'.sgs⟩)),(1,rN s'.nodes),(2,.dead),(3,rS s'.sgs)],[rT s'.tms]⟩) (by kernel_rfl) (hQ _ _ rfl ⟨2,rfl⟩)
    · simp (disch:=omega) only [↓LD,LA,a0A,seval,ren,List.getElem?_nil,stM,stH,stL,rN,rT,rS]
      repeat' (with_reducible first|refine Wx.h ?_|refine We.h fun K hK=>?_|(refine hK _ _ _ _ ?_;clear hK K;try clear hM M)|refine Wb.h fun K hK=>?_|(refine hK _ ?_;clear hK K)|(refine Wy.h ?_ ?_;kernel_rfl)|((fail_if_success refine Wz.h ?_);simp (disch:=omega) only [↓LD,LA,a0A,seval]))
      exact endG rfl rfl (ef:=⟨D.int v,[(0,.box 65 (stL 1 2 4 ⟨e.id,e.ver,e.time,s'.closed,s'.cancel,s'.defs,s'.nodes,s'.tms,s'.sgs⟩)),(1,rN s'.nodes),(2,rT s'.tms),(3,.dead)],[rS s'.sgs]⟩) (by kernel_rfl) (hQ _ _ rfl ⟨3,rfl⟩)
theorem f1A {a b c:Nat}{s:S12}{H:List Row}(h1:H[a]?=some (rN s.nodes))(h2:H[b]?=some (rT s.tms))(h3:H[c]?=some (rS s.sgs)):Vw H (.ag (stL a b c s)) (stD s) :=
 .ags (.cons .f (.cons .f (.cons .f (.cons .f (.cons .f (.cons .f (.cons (.sl h1 (fun e=>by rw [List.eq_nil_of_length_eq_zero e];try rfl)) (.cons (.sl h2 (fun e=>by rw [List.eq_nil_of_length_eq_zero e];try rfl)) (.cons (.sl h3 (fun e=>by rw [List.eq_nil_of_length_eq_zero e];try rfl)) .nil)))))))))
def a0Z (s:S12):Int :=
 if s.closed≠0∨s.defs.length=0 then 0 else if s.cancel=true∧cntL s.nodes 1=0 then 11 else if 0<cntL s.nodes 3 then 10 else if cntL s.nodes 2=s.nodes.length then 9 else 0
theorem d1B (done:List Bool):∀ (k:Nat) (ds:List Nd),0≤nxt done k ds→(k:Int)≤nxt done k ds∧nxt done k ds<k+ds.length∧gt done (nxt done k ds).toNat=false
 | k,[],h=>by simp [nxt] at h
 | k,d :: ds,h=>by
  unfold nxt at h ⊢
  split
  ·rename_i hc
   simp at hc
   simp [hc.1];omega
  ·rename_i hc
   rw [if_neg hc] at h
   obtain ⟨h1,h2,h3⟩:=d1B done (k+1) ds h
   refine ⟨by omega,?_,h3⟩
   simp only [List.length_cons];omega
def opn (done:List Bool):Nat:=done.count false
theorem e1P {done:List Bool}{k:Nat}(hk:k<done.length)(h:gt done k=false):opn (done.set k true)+1=opn done:=by
 unfold opn
 have h1:done[k]=false:=by rw [←b0P hk];exact h
 have hpos:0<done.count false:=List.count_pos_iff.2 (h1 ▸ List.getElem_mem hk)
 rw [List.count_set hk]
 simp [h1];omega
theorem x0u (n:Nat):opn (List.replicate n false)=n:=by simp [opn]
def q0z:SCode :=
  (jq ([.a 2 (.box 123 (.t 0)),.a 4 (.mv kF)]) (.seq (jq ([jk 5 0]) (.block 0 (.loop (.seq (jq ([jm 6 5,jo 7 0 2,jl 8 7,je 9 8,jB 10 .lss 6 9]) (jc
 10 .skip (.exit 0))) (.seq (.block 1 (jq ((ap [jo 13 0 2,jl 14 13,jm 15 5,jx 16 1 14 15,jl 17 16,jm 18 1,je 19 18,jB 20 .geq 17 19] (ap [jm 21
 20,gM 22 1 21 false] [gO 23 0 2 21 false,gL 24 23 21 false,gM 25 5 21 false,jG 26 (.idx 1 (.t 24) (.t 25)) 21 false,gL 27 26 21 false,jG 28 (.idx
 1 (.t 22) (.t 27)) 21 false,gL 29 28 21 false,jG 30 (.unot (.t 29)) 21 false,.a 31 (.pick (.t 21) kT (.t 30))]))) (jc 31 (jq ([.a 4 (.mv kF)]) .ret)
 .skip))) (.ops [jm 11 5,jb 12 .add 11 1,jm 5 12])))))) (jq ([.a 4 (.mv kT)]) .ret)))
theorem x0X:Fn Tryz.prog 163 32 [.t 4] q0z:=.of Tryz.func163 (by kernel_rfl)
def j0h:SCode :=
  (jq ([.a 2 (.mv kN)]) (jq ([jm 7 0,je 8 7,.a 9 (.mkslice 4 1 1 [(.v (.bool false))] (.t 8) (.t 8)),jm 3 9]) (jq ([.a 4 (.mv kN)]) (.seq (jq ([.a 5
 (.mv kT)]) (.block 0 (.loop (.seq (jq ([jm 10 5]) (jc 10 .skip (.exit 0))) (.block 1 (jq ([.a 5 (.mv kF)]) (jq ([jk 6 0]) (.block 2 (.loop (.seq (jq
 ((ap [jm 11 6,jm 12 0,je 13 12,jB 14 .lss 11 13] (ap [jm 15 14,gM 16 5 15 true] [jG 17 (.unot (.t 16)) 15 true,.a 18 (.pick (.t 15) (.t 17)
 kF)]))) (jc 18 .skip (.exit 2))) (.seq (.block 3 (jq ((ap [jm 21 3,jm 22 6,jx 23 1 21 22,jl 24 23,.a 25 (.unot (.t 24)),jm 26 25,gM 27 0 26 true]
 (ap [gM 28 6 26 true,jG 29 (.idx 3 (.t 27) (.t 28)) 26 true,jG 30 (.loadA 3 (.t 29)) 26 true,gM 31 3 26 true,jG 32 (.call (kC 163) [(.t 30),(.t
 31)]) 26 true] [.a 33 (.pick (.t 26) (.t 32) kF)]))) (jc 33 (jq ([jm 34 3,jm 35 6,jx 36 1 34 35,.n (.store 1 (.t 36) kT)]) (jq ((ap [jm 37 4,jm 38
 6,.a 39 (.bsl 3 1 1 [jI] [(0,(.t 38))]),.a 40 (.app 3 1 8 (.t 37) (.t 39))] [jm 4 40])) (.ops [.a 5 (.mv kT)]))) .skip))) (.ops [jm 19 6,jb 20 .add
 19 1,jm 6 20])))))))))))) (jq ([jm 41 4,jm 2 41]) .ret)))))
theorem p0D:Fn Tryz.prog 146 42 [.t 2] j0h:=.of Tryz.func146 (by kernel_rfl)
def h0u:SCode :=
  (jq ([jk 2 0]) (.seq (jq ((ap [jm 6 0,je 7 6,jb 8 .lss 7 1] (ap [jm 9 8,gM 10 0 9 false] (ap [jG 11 (.slen (.t 10)) 9 false,jG 12 (.bin .gtr (.t
 11) (kI 8)) 9 false] [.a 13 (.pick (.t 9) kT (.t 12))])))) (jc 13 (jq ([jk 2 1]) .ret) .skip)) (.seq (jq ([jk 3 0]) (.block 0 (.loop (.seq (jq ([jm 14
 3,jm 15 0,je 16 15,jB 17 .lss 14 16]) (jc 17 .skip (.exit 0))) (.seq (.block 1 (jq ([jm 20 0,jm 21 3,jx 22 3 20 21,jL 23 3 22,.a 4 (.alloc 123
 [jN,jI,jI]),.n (.store 3 (.t 4) (.t 23))]) (.seq (jq ((ap [jo 24 1 4,jl 25 24,jb 26 .lss 25 1] (ap [jm 27 26,gO 28 1 4 27 false] (ap [gL 29 28 27
 false,jG 30 (.bin .gtr (.t 29) (kI 5)) 27 false] (ap [.a 31 (.pick (.t 27) kT (.t 30)),jm 32 31,gO 33 2 4 32 false] (ap [gL 34 33 32 false,jG 35
 (.bin .lss (.t 34) (kI 1)) 32 false] (ap [.a 36 (.pick (.t 32) kT (.t 35)),jm 37 36,gO 38 2 4 37 false] (ap [gL 39 38 37 false,jG 40 (.bin .gtr (.t
 39) (kI 1048576)) 37 false] [.a 41 (.pick (.t 37) kT (.t 40))])))))))) (jc 41 (jq ([jk 2 1]) .ret) .skip)) (jq ([jk 5 0]) (.block 2 (.loop (.seq (jq
 ([jm 42 5,jo 43 0 4,jl 44 43,je 45 44,jB 46 .lss 42 45]) (jc 46 .skip (.exit 2))) (.seq (.block 3 (.seq (.drw [jo 49 0 4,jl 50 49,jm 51 5,jx 52
 1 50 51,jl 53 52,jb 54 .lss 53 0,jm 55 54,gO 56 0 4 55 false,gL 57 56 55 false,gM 58 5 55 false,jG 59 (.idx 1 (.t 57) (.t 58)) 55 false,gL 60
 59 55 false,gM 61 0 55 false,jG 62 (.slen (.t 61)) 55 false,jG 63 (.bin .geq (.t 60) (.t 62)) 55 false,.a 64 (.pick (.t 55) kT (.t 63)),jm 65 64,
 gM 66 5 65 false,jG 67 (.bin .gtr (.t 66) (kI 0)) 65 false,gM 68 67 65 false,gO 69 0 4 68 true,gL 70 69 68 true,gM 71 5 68 true,jG 72 (.idx 1 (.t
 70) (.t 71)) 68 true,gL 73 72 68 true,gO 74 0 4 68 true,gL 75 74 68 true,gM 76 5 68 true,jG 77 (.bin .sub (.t 76) (kI 1)) 68 true,jG 78 (.idx 1
 (.t 75) (.t 77)) 68 true,gL 79 78 68 true,jG 80 (.bin .leq (.t 73) (.t 79)) 68 true,jG 81 (.pick (.t 68) (.t 80) kF) 65 false,.a 82 (.pick (.t 65)
 kT (.t 81))] [0,1,0,7,15,31,63,127,255,127,1023,2047,127,4223,16383,32767,65535,131071,262143,524287,1048575,2097151,1048575,
 8388607,16777215,1048575,34603007,1048575,135266303,504365055,1041235967,2147483647,4294967295,8589934591]) (jc 82 (jq ([jk 2 1]) .ret)
 .skip))) (.ops [jm 47 5,jb 48 .add 47 1,jm 5 48]))))))))) (.ops [jm 18 3,jb 19 .add 18 1,jm 3 19])))))) (.seq (jq ((ap [jm 83 0,.a 84 (.call (kC
 146) [(.t 83)])] [je 85 84,jm 86 0,je 87 86,jB 88 .lss 85 87])) (jc 88 (jq ([jk 2 9]) .ret) .skip)) (jq ([jk 2 0]) .ret)))))
theorem r0f:Fn Tryz.prog 104 89 [.t 2] h0u:=.of Tryz.func104 (by kernel_rfl)
def k0A:SCode :=
  (jq ([.a 4 (.mv kN)]) (jq ([.a 5 (.mv kN)]) (.seq (jq ([jk 6 0]) (.block 0 (.loop (.seq (jq ([jm 7 6,jm 8 0,je 9 8,jB 10 .lss 7 9]) (jc 10 .skip
 (.exit 0))) (.seq (.block 1 (jq ((ap [jm 13 6,jm 14 1,je 15 14,jB 16 .geq 13 15] (ap [jm 17 16,gM 18 1 17 false] (ap [gM 19 6 17 false,jG 20 (.idx
 1 (.t 18) (.t 19)) 17 false,gL 21 20 17 false,jG 22 (.unot (.t 21)) 17 false,.a 23 (.pick (.t 17) kT (.t 22)),jm 24 23,gM 25 0 24 true] (ap [gM 26
 6 24 true,jG 27 (.idx 3 (.t 25) (.t 26)) 24 true,jG 28 (.loadA 3 (.t 27)) 24 true,gM 29 1 24 true,jG 30 (.call (kC 163) [(.t 28),(.t 29)]) 24
 true] [.a 31 (.pick (.t 24) (.t 30) kF)]))))) (jc 31 (.ops (ap [jm 32 5,jm 33 6,.a 34 (.bsl 3 1 1 [jI] [(0,(.t 33))]),.a 35 (.app 3 1 8 (.t 32) (.t
 34))] [jm 5 35])) .skip))) (.ops [jm 11 6,jb 12 .add 11 1,jm 6 12])))))) (jq ([jm 36 5,jm 4 36]) .ret))))
theorem r0v:Fn Tryz.prog 164 37 [.t 4] k0A:=.of Tryz.func164 (by kernel_rfl)
def c0O:SCode :=
  (jq ([.a 1 (.box 65 (.t 0)),.a 2 (.mv kN)]) (.seq (jq ((ap [jo 8 3 1,jl 9 8,jb 10 .neq 9 0] (ap [jm 11 10,gO 12 4 1 11 false] [gL 13 12 11 false,
 .a 14 (.pick (.t 11) kT (.t 13))]))) (jc 14 (jq ([.a 2 (.mv kN)]) .ret) .skip)) (jq ([.a 3 (.mv kN)]) (.seq (jq ([jk 4 0]) (.block 0 (.loop (.seq (jq
 ([jm 15 4,jo 16 6 1,jl 17 16,je 18 17,jB 19 .lss 15 18]) (jc 19 .skip (.exit 0))) (.seq (.block 1 (.ops (ap [jm 22 3,jo 23 6 1,jl 24 23,jm 25 4,
 jx 26 4 24 25,jo 27 0 26,jl 28 27,jb 29 .eql 28 2] (ap [.a 30 (.bsl 4 1 1 [jF] [(0,(.t 29))]),.a 31 (.app 4 1 1 (.t 22) (.t 30))] [jm 3 31]))))
 (.ops [jm 20 4,jb 21 .add 20 1,jm 4 21])))))) (jq ([.a 5 (.mv kN)]) (jq ((ap [jo 32 5 1,jl 33 32,jm 34 3,.a 35 (.call (kC 164) [(.t 33),(.t
 34)])] [jm 6 35])) (.seq (jq ([jk 7 0]) (.block 2 (.loop (.seq (jq ([jm 36 7,jm 37 6,je 38 37,jB 39 .lss 36 38]) (jc 39 .skip (.exit 2))) (.seq
 (.block 3 (.seq (.drw [jo 42 6 1,jl 43 42,jm 44 6,jm 45 7,jx 46 1 44 45,jl 47 46,jx 48 4 43 47,jo 49 0 48,jl 50 49,jb 51 .eql 50 0] [0,1,0,
 0,12,28,63,127,255,511]) (jc 51 (.ops (ap [jm 52 5,jm 53 6,jm 54 7,jx 55 1 53 54,jl 56 55,.a 57 (.bsl 3 1 1 [jI] [(0,(.t 56))]),.a 58
 (.app 3 1 8 (.t 52) (.t 57))] [jm 5 58])) .skip))) (.ops [jm 40 7,jb 41 .add 40 1,jm 7 41])))))) (jq ([jm 59 5,jm 2 59]) .ret))))))))
theorem d0G:Fn Tryz.prog 147 60 [.t 2] c0O:=.of Tryz.func147 (by kernel_rfl)
def j0Q:SCode :=
  (jq ([.a 2 (.box 65 (.t 0)),jk 4 0]) (jq ([jk 5 0]) (.seq (jq ([jk 6 0]) (.block 0 (.loop (.seq (jq ([jm 7 6,jo 8 6 2,jl 9 8,je 10 9,jB 11 .lss 7
 10]) (jc 11 .skip (.exit 0))) (.seq (.block 1 (jq ([jo 14 6 2,jl 15 14,jm 16 6,jx 17 4 15 16,jo 18 0 17,jl 19 18,jm 20 1,jB 21 .eql 19 20]) (jc
 21 (.ops [jm 22 5,jb 23 .add 22 1,jm 5 23]) .skip))) (.ops [jm 12 6,jb 13 .add 12 1,jm 6 13])))))) (jq ([jm 24 5,jm 4 24]) .ret))))
theorem r0u:Fn Tryz.prog 107 25 [.t 4] j0Q:=.of Tryz.func107 (by kernel_rfl)
def g0v:SCode :=
  (jq ([.a 1 (.box 65 (.t 0)),jk 2 0]) (.seq (.block 0 (jq ((ap [jo 4 3 1,jl 5 4,jb 6 .neq 5 0] (ap [jm 7 6,gO 8 5 1 7 false] (ap [gL 9 8 7 false,jG
 10 (.slen (.t 9)) 7 false,jG 11 (.bin .eql (.t 10) (kI 0)) 7 false] [.a 12 (.pick (.t 7) kT (.t 11)),jm 3 12])))) (jc 3 (jq ([jk 2 0]) .ret) (jq ((ap
 [jo 14 4 1,jl 15 14,jm 16 15,jG 17 (.loadA 9 (.t 1)) 16 true] (ap [jG 18 (.call (kC 107) [(.t 17),(kI 1)]) 16 true] (ap [jG 19 (.bin .eql (.t 18)
 (kI 0)) 16 true] [.a 20 (.pick (.t 16) (.t 19) kF),jm 13 20])))) (jc 13 (jq ([jk 2 11]) .ret) (jq ((ap [jL 22 9 1,.a 23 (.call (kC 107) [(.t 22),(kI
 3)])] (ap [jb 24 .gtr 23 0] [jm 21 24]))) (jc 21 (jq ([jk 2 10]) .ret) (.seq (.drw [jL 26 9 1,.a 27 (.call (kC 107) [(.t 26),(kI 2)]),jo 28 6 1,jl
 29 28,je 30 29,jB 31 .eql 27 30,jm 25 31] [0,1,0,4,12,31,63]) (jc 25 (jq ([jk 2 9]) .ret) .skip))))))))) (jq ([jk 2 0]) .ret)))
theorem o0A:Fn Tryz.prog 157 32 [.t 2] g0v:=.of Tryz.func157 (by kernel_rfl)
def q0T:SCode :=
  (jq ([.a 2 (.box 65 (.t 0)),.a 4 (.mv kF)]) (.seq (jq ([jk 5 0]) (.block 0 (.loop (.seq (jq ([jm 6 5,jo 7 8 2,jl 8 7,je 9 8,jB 10 .lss 6 9]) (jc
 10 .skip (.exit 0))) (.seq (.block 1 (jq ([jo 13 8 2,jl 14 13,jm 15 5,jx 16 3 14 15,jo 17 0 16,jl 18 17,jm 19 1,jB 20 .eql 18 19]) (jc 20 (jq
 ([.a 4 (.mv kT)]) .ret) .skip))) (.ops [jm 11 5,jb 12 .add 11 1,jm 5 12])))))) (jq ([.a 4 (.mv kF)]) .ret)))
theorem x0e:Fn Tryz.prog 30 21 [.t 4] q0T:=.of Tryz.func30 (by kernel_rfl)
def i0P:SCode :=
  (jq ([.a 2 (.box 65 (.t 0)),jk 4 0]) (.seq (jq ([jk 5 0]) (.block 0 (.loop (.seq (jq ([jm 6 5,jo 7 7 2,jl 8 7,je 9 8,jB 10 .lss 6 9]) (jc 10 .skip
 (.exit 0))) (.seq (.block 1 (jq ([jo 13 7 2,jl 14 13,jm 15 5,jx 16 3 14 15,jo 17 0 16,jl 18 17,jm 19 1,jB 20 .eql 18 19]) (jc 20 (jq ([jm 21 5,
 jm 4 21]) .ret) .skip))) (.ops [jm 11 5,jb 12 .add 11 1,jm 5 12])))))) (jq ([.a 4 (.mv (kI (-1)))]) .ret)))
theorem o0i:Fn Tryz.prog 148 22 [.t 4] i0P:=.of Tryz.func148 (by kernel_rfl)
def j0q:SCode :=
  (jq ([.a 2 (.box 65 (.t 0)),.a 3 (.box 73 (.t 1)),.a 4 (.alloc 65 [jI,jI,jI,jI,jF,jN,jN,jN,jN]),jk 5 0]) (jq ([.a 8 (.bld [jI,jI,jI,jI,
 jF,jN,jN,jN,jN] []),.a 6 (.alloc 65 [jI,jI,jI,jI,jF,jN,jN,jN,jN]),.n (.store 9 (.t 6) (.t 8))]) (.seq (jq ((ap [jL 9 9 3,.a 10 (.call
 (kC 103) [(.t 9)])] (ap [.a 11 (.unot (.t 10)),jm 12 11,gO 13 0 3 12 false] (ap [gL 14 13 12 false,gO 15 0 2 12 false,gL 16 15 12 false,jG 17
 (.bin .add (.t 16) (kI 1)) 12 false,jG 18 (.bin .neq (.t 14) (.t 17)) 12 false] (ap [.a 19 (.pick (.t 12) kT (.t 18)),jm 20 19,gO 21 1 3 20 false]
 (ap [gL 22 21 20 false,gO 23 1 2 20 false,gL 24 23 20 false,jG 25 (.bin .lss (.t 22) (.t 24)) 20 false] (ap [.a 26 (.pick (.t 20) kT (.t 25)),jm 27
 26,gO 28 2 3 27 false] (ap [gL 29 28 27 false,gO 30 2 2 27 false,gL 31 30 27 false,jG 32 (.bin .lss (.t 29) (.t 31)) 27 false] [.a 33 (.pick (.t
 27) kT (.t 32))])))))))) (jc 33 (jq ([jL 34 9 6,.n (.store 9 (.t 4) (.t 34)),jk 5 1]) .ret) .skip)) (.seq (jq ([jo 35 3 2,jl 36 35,jb 37 .neq 36
 0]) (jc 37 (jq ([jL 38 9 6,.n (.store 9 (.t 4) (.t 38)),jk 5 12]) .ret) .skip)) (.seq (jq ((ap [jo 39 0 2,jl 40 39,jb 41 .eql 40 0] (ap [jo 42 3 3,
 jl 43 42,jb 44 .eql 43 1] [.a 45 (.binb .neq (.t 41) (.t 44))]))) (jc 45 (jq ([jL 46 9 6,.n (.store 9 (.t 4) (.t 46)),jk 5 4]) .ret) .skip)) (jq
 ((ap [.a 47 (.bsl 158 4 0 [] []),jo 48 6 2,jl 49 48,.a 50 (.app 158 4 48 (.t 47) (.t 49))] [jo 51 6 2,.n (.store 1 (.t 51) (.t 50))])) (jq ([jk 7
 0]) (.seq (jq ([jo 52 3 3,jl 53 52]) (.block 0 (jq ((ap [jb 58 .eql 53 1] [jm 57 58])) (jc 57 (.seq (jq ((ap [jo 59 8 3,jl 60 59,.a 61 (.call (kC
 104) [(.t 60)])] [jb 62 .neq 61 0])) (jc 62 (jq ([jL 63 9 6,.n (.store 9 (.t 4) (.t 63)),jk 5 1]) .ret) .skip)) (jq ([jo 64 8 3,jl 65 64,jo 66 5 2,
 .n (.store 1 (.t 66) (.t 65))]) (.ops [jo 67 8 3,jl 68 67,je 69 68,.a 70 (.mkslice 158 4 48 [(.v (.int .i64 0)),(.v (.int .i64 0)),(.v (.int .i64
 0)),(.v (.slice none 0 0))] (.t 69) (.t 69)),jo 71 6 2,.n (.store 1 (.t 71) (.t 70))]))) (.seq (jq ((ap [jb 73 .eql 53 2] [jm 72 73])) (jc 72 .skip
 (jq ((ap [jb 74 .eql 53 3] [jm 72 74])) (jc 72 .skip (.ops (ap [jb 75 .eql 53 4] [jm 72 75])))))) (jc 72 (.ops (ap [jL 76 9 3,.a 77 (.call (kC 105)
 [(.t 2),(.t 76)])] [jm 7 77])) (.seq (jq ((ap [jb 79 .eql 53 5] [jm 78 79])) (jc 78 .skip (.ops (ap [jb 80 .eql 53 6] [jm 78 80])))) (jc 78 (.ops (ap
 [jL 81 9 3,.a 82 (.call (kC 106) [(.t 2),(.t 81)])] [jm 7 82])) (jq ((ap [jb 84 .eql 53 7] [jm 83 84])) (jc 83 (.seq (jq ([jL 85 9 2,jo 86 6 3,jl
 87 86,.a 88 (.call (kC 30) [(.t 85),(.t 87)])]) (jc 88 (jq ([jL 89 9 6,.n (.store 9 (.t 4) (.t 89)),jk 5 13]) .ret) .skip)) (.drw [.a 90 (.bsl 106
 3 0 [] []),jo 91 8 2,jl 92 91,.a 93 (.app 106 3 48 (.t 90) (.t 92)),jo 94 6 3,jl 95 94,jo 96 0 3,jl 97 96,jo 98 7 3,jl 99 98,.a 100 (.bld
 [(.f (.v (.string ⟨#[]⟩))),jI,jN] [(0,1,(.t 95)),(1,1,(.t 97)),(2,1,(.t 99))]),.a 101 (.bsl 106 3 1 [(.f (.v (.string ⟨#[]⟩))),jI,jN] [(0,
 (.t 100))]),.a 102 (.app 106 3 48 (.t 93) (.t 101)),jo 103 8 2,.n (.store 1 (.t 103) (.t 102))] [0,0,2,7,0,16,0,64,0,256,1008,2032,4095,
 8191,16383])) (jq ((ap [jb 105 .eql 53 8] [jm 104 105])) (jc 104 (.seq (jq ([jo 106 4 2,jl 107 106]) (jc 107 (.ops [jk 7 4]) .skip)) (.ops [jo 108 4
 2,.n (.store 1 (.t 108) kT)])) (jq ((ap [jb 110 .eql 53 9] [jm 109 110])) (jc 109 (.seq (.seq (.drw [jL 111 9 2,.a 112 (.call (kC 107) [(.t 111),(kI
 2)]),jo 113 6 2,jl 114 113,je 115 114,jB 116 .neq 112 115] [0,1,0,4,12,31]) (jc 116 (.ops [jk 7 4]) .skip)) (.ops [jo 117 3 3,jl 118 117,jo
 119 3 2,.n (.store 1 (.t 119) (.t 118))])) (jq ((ap [jb 121 .eql 53 10] [jm 120 121])) (jc 120 (.seq (jq ((ap [jL 122 9 2,.a 123 (.call (kC 107) [(.t
 122),(kI 3)])] [jb 124 .eql 123 0])) (jc 124 (.ops [jk 7 4]) .skip)) (.ops [jo 125 3 3,jl 126 125,jo 127 3 2,.n (.store 1 (.t 127) (.t 126))])) (jq
 ((ap [jb 129 .eql 53 11] [jm 128 129])) (jc 128 (.seq (jq ((ap [jo 130 4 2,jl 131 130,.a 132 (.unot (.t 131)),jm 133 132,jG 134 (.loadA 9 (.t 2))
 133 false] (ap [jG 135 (.call (kC 107) [(.t 134),(kI 1)]) 133 false] (ap [jG 136 (.bin .gtr (.t 135) (kI 0)) 133 false] [.a 137 (.pick (.t 133) kT (.t
 136))])))) (jc 137 (.ops [jk 7 4]) .skip)) (.ops [jo 138 3 3,jl 139 138,jo 140 3 2,.n (.store 1 (.t 140) (.t 139))])) (.ops [jo 54 3 3,jl 55 54,jo
 56 3 2,.n (.store 1 (.t 56) (.t 55))]))))))))))))))))))) (.seq (jq ([jm 141 7,jb 142 .neq 141 0]) (jc 142 (jq ([jL 143 9 6,jm 144 7,.n (.store 9
 (.t 4) (.t 143)),jm 5 144]) .ret) .skip)) (jq ([jo 145 0 3,jl 146 145,jo 147 0 2,.n (.store 1 (.t 147) (.t 146))]) (jq ([jo 148 1 3,jl 149 148,jo
 150 1 2,.n (.store 1 (.t 150) (.t 149))]) (jq ([jo 151 2 3,jl 152 151,jo 153 2 2,.n (.store 1 (.t 153) (.t 152))]) (jq ([jL 154 9 2,.n (.store 9
 (.t 4) (.t 154)),jk 5 0]) .ret)))))))))))))
theorem o0a:Fn Tryz.prog 66 155 [.cA 9 4,.t 5] j0q:=.of Tryz.func66 (by kernel_rfl)
def e0K:SCode :=
  (jq ([.a 3 (.box 73 (.t 1)),jk 4 0]) (.seq (.seq (.drw [jo 9 4 3,jl 10 9,jm 11 0,jn 12 11,jo 13 6 12,jl 14 13,je 15 14,jB 16 .geq 10 15] [0,1,
 0,4,12,28,60,127]) (jc 16 (jq ([jk 4 1]) .ret) .skip)) (.seq (.drw [jm 17 0,jn 18 17,jo 19 6 18,jl 20 19,jo 21 4 3,jl 22 21,jx 23 4 20 22,
 jL 24 4 23,.a 5 (.alloc 158 [jI,jI,jI,jN]),.n (.store 4 (.t 5) (.t 24))] [0,1,3,7,0,16,63,127,0,511]) (.seq (jq ([jo 25 3 3,jl 26 25,jb
 27 .eql 26 2]) (jc 27 (jq ([.a 6 (.mv kF)]) (jq ((ap [jm 28 0,jn 29 28,jL 30 9 29,.a 31 (.call (kC 147) [(.t 30)])] [jm 7 31])) (.seq (jq ([jk 8 0])
 (.block 0 (.loop (.seq (jq ([jm 32 8,jm 33 7,je 34 33,jB 35 .lss 32 34]) (jc 35 .skip (.exit 0))) (.seq (.block 1 (.drw [jm 38 6,jm 39 38,gM 40 7
 39 false,gM 41 8 39 false,jG 42 (.idx 1 (.t 40) (.t 41)) 39 false,gL 43 42 39 false,gO 44 4 3 39 false,gL 45 44 39 false,jG 46 (.bin .eql (.t 43)
 (.t 45)) 39 false,.a 47 (.pick (.t 39) kT (.t 46)),jm 6 47] [0,1,3,3,15,31,3,67,255,511,1023])) (.ops [jm 36 8,jb 37 .add 36 1,jm 8
 37])))))) (.seq (jq ((ap [jm 48 6,.a 49 (.unot (.t 48)),jm 50 49,gO 51 5 3 50 false] (ap [gL 52 51 50 false,gO 53 1 5 50 false,gL 54 53 50 false,
 jG 55 (.bin .add (.t 54) (kI 1)) 50 false,jG 56 (.bin .neq (.t 52) (.t 55)) 50 false] [.a 57 (.pick (.t 50) kT (.t 56))]))) (jc 57 (jq ([jk 4 4])
 .ret) .skip)) (.seq (.drw [jm 58 0,jn 59 58,jo 60 6 59,jl 61 60,jo 62 4 3,jl 63 62,jo 64 5 3,jl 65 64,jo 66 2 3,jl 67 66,jm 68 0,jn 69 68,
 jo 70 5 69,jl 71 70,jo 72 4 3,jl 73 72,jx 74 3 71 73,jo 75 2 74,jl 76 75,jB 77 .add 67 76,.a 78 (.bld [jI,jI,jI,jN] [(0,1,(kI 1)),(1,1,
 (.t 65)),(2,1,(.t 77))]),jx 79 4 61 63,.n (.store 4 (.t 79) (.t 78))] [0,1,3,7,0,16,0,64,0,256,0,1024,3072,7168,0,16384,64512,
 130048,261120,524032,1048512,2097151,4194303]) (jq ([jk 4 0]) .ret)))))) .skip)) (.seq (jq ((ap [jo 80 0 5,jl 81 80,jb 82 .neq 81 1] (ap [jm 83
 82,gO 84 5 3 83 false] (ap [gL 85 84 83 false,gO 86 1 5 83 false,gL 87 86 83 false,jG 88 (.bin .neq (.t 85) (.t 87)) 83 false] [.a 89 (.pick (.t
 83) kT (.t 88))])))) (jc 89 (jq ([jk 4 4]) .ret) .skip)) (jq ([jo 90 2 5,.n (.store 1 (.t 90) (kI 0))]) (.seq (.block 2 (jq ((ap [jo 93 3 3,jl 94 93,
 jb 95 .eql 94 3] [jm 92 95])) (jc 92 (jq ([jo 96 0 5,.n (.store 1 (.t 96) (kI 2))]) (.ops [jo 97 7 3,jl 98 97,jo 99 3 5,.n (.store 1 (.t 99) (.t
 98))])) (.seq (.drw [jo 101 1 5,jl 102 101,jm 103 0,jn 104 103,jo 105 5 104,jl 106 105,jo 107 4 3,jl 108 107,jx 109 3 106 108,jo 110 1 109,jl
 111 110,jB 112 .eql 102 111,jm 100 112] [0,1,0,4,12,28,0,64,252,508,1020,2047,4095]) (jc 100 (.ops [jo 113 0 5,.n (.store 1 (.t 113) (kI
 3))]) (.ops [jo 91 0 5,.n (.store 1 (.t 91) (kI 0))])))))) (.seq (.drw [jm 114 0,jn 115 114,jo 116 6 115,jl 117 116,jo 118 4 3,jl 119 118,jL 120
 4 5,jx 121 4 117 119,.n (.store 4 (.t 121) (.t 120))] [0,1,3,7,0,16,0,127,255]) (jq ([jk 4 0]) .ret)))))))))
theorem h0R:Fn Tryz.prog 105 122 [.t 4] e0K:=.of Tryz.func105 (by kernel_rfl)
def d0j:SCode :=
  (jq ([.a 3 (.box 73 (.t 1)),jk 4 0]) (.seq (.drw [jm 7 0,jn 8 7,jL 9 9 8,jo 10 6 3,jl 11 10,.a 12 (.call (kC 148) [(.t 9),(.t 11)]),jm 5 12]
 [0,1,3,0,8,31,63]) (jq ((ap [.a 13 (.bsl 180 3 0 [] []),jm 14 0,jn 15 14,jo 16 7 15,jl 17 16,.a 18 (.app 180 3 32 (.t 13) (.t 17))] [jm 6
 18])) (.seq (jq ([jo 19 3 3,jl 20 19,jb 21 .eql 20 5]) (jc 21 (.seq (jq ([jm 22 5,jb 23 .geq 22 0]) (jc 23 (jq ([jk 4 13]) .ret) .skip)) (.seq (jq
 ([jm 24 6,je 25 24,jb 26 .geq 25 8]) (jc 26 (jq ([jk 4 4]) .ret) .skip)) (jq ((ap [jm 27 0,jm 28 6,jo 29 6 3,jl 30 29,jo 31 2 3,jl 32 31,jo 33
 5 3,jl 34 33,jB 35 .add 32 34,.a 36 (.bld [(.f (.v (.string ⟨#[]⟩))),jI,jF] [(0,1,(.t 30)),(1,1,(.t 35))]),.a 37 (.bsl 180 3 1 [(.f (.v
 (.string ⟨#[]⟩))),jI,jF] [(0,(.t 36))]),.a 38 (.app 180 3 32 (.t 28) (.t 37))] [jn 39 27,jo 40 7 39,.n (.store 1 (.t 40) (.t 38))])) (jq ([jk 4
 0]) .ret)))) .skip)) (.seq (.seq (.drw [jm 41 5,jb 42 .lss 41 0,jm 43 42,gM 44 6 43 false,gM 45 5 43 false,jG 46 (.idx 3 (.t 44) (.t 45)) 43
 false,gO 47 2 46 43 false,gL 48 47 43 false,.a 49 (.pick (.t 43) kT (.t 48)),jm 50 49,gO 51 2 3 50 false,gL 52 51 50 false,gM 53 6 50 false,gM
 54 5 50 false,jG 55 (.idx 3 (.t 53) (.t 54)) 50 false,gO 56 1 55 50 false,gL 57 56 50 false,jG 58 (.bin .lss (.t 52) (.t 57)) 50 false,.a 59
 (.pick (.t 50) kT (.t 58))] [0,1,3,7,7,31,63,127,255,511,1023,2047,1023,1023,13311,29695,62463,131071,262143]) (jc 59 (jq ([jk 4 4])
 .ret) .skip)) (jq ([jm 60 6,jm 61 5,jx 62 3 60 61,jo 63 2 62,.n (.store 1 (.t 63) kT)]) (jq ([jm 64 0,jm 65 6,jn 66 64,jo 67 7 66,.n (.store 1
 (.t 67) (.t 65))]) (jq ([jk 4 0]) .ret))))))))
theorem g0M:Fn Tryz.prog 106 68 [.t 4] d0j:=.of Tryz.func106 (by kernel_rfl)
def m0w:SCode :=
  (jq ([.a 2 (.alloc 65 [jI,jI,jI,jI,jF,jN,jN,jN,jN]),jk 3 0]) (jq ([.a 4 (.alloc 65 [jI,jI,jI,jI,jF,jN,jN,jN,jN])]) (.seq (jq ([jk 5
 0]) (.block 0 (.loop (.seq (jq ([jm 7 5,jm 8 0,je 9 8,jB 10 .lss 7 9]) (jc 10 .skip (.exit 0))) (.seq (.block 1 (jq ([jk 6 0]) (.seq (.drw [jL 14 9
 4,jm 15 0,jm 16 5,jx 17 9 15 16,jL 18 9 17,.a 19 (.call (kC 66) [(.t 14),(.t 18)]),jm 13 19,jE 20 0 13,jE 21 1 13,.n (.store 9 (.t 4) (.t
 20)),jm 6 21] [0,0,0,6,14,31,63,127,127,255,1023]) (jq ([jm 22 6,jb 23 .neq 22 0]) (jc 23 (jq ([.a 24 (.bld [jI,jI,jI,jI,jF,jN,jN,
 jN,jN] []),jm 25 6,.n (.store 9 (.t 2) (.t 24)),jm 3 25]) .ret) .skip))))) (.ops [jm 11 5,jb 12 .add 11 1,jm 5 12])))))) (jq ([jL 26 9 4,.n
 (.store 9 (.t 2) (.t 26)),jk 3 0]) .ret))))
theorem t0T:Fn Tryz.prog 28 27 [.cA 9 2,.t 3] m0w:=.of Tryz.func28 (by kernel_rfl)
def l0T:SCode :=
  (jq ([.a 1 (.box 73 (.t 0)),.a 2 (.mv kF)]) (.seq (jq ((ap [jo 6 0 1,jl 7 6,jb 8 .lss 7 1] (ap [jm 9 8,gO 10 0 1 9 false] (ap [gL 11 10 9 false,jG
 12 (.bin .gtr (.t 11) (kI 200)) 9 false] (ap [.a 13 (.pick (.t 9) kT (.t 12)),jm 14 13,gO 15 1 1 14 false] (ap [gL 16 15 14 false,jG 17 (.call (kC
 114) [(.t 16)]) 14 false] (ap [jG 18 (.unot (.t 17)) 14 false,.a 19 (.pick (.t 14) kT (.t 18)),jm 20 19,gO 21 2 1 20 false] (ap [gL 22 21 20 false,
 jG 23 (.bin .lss (.t 22) (kI 0)) 20 false] (ap [.a 24 (.pick (.t 20) kT (.t 23)),jm 25 24,gO 26 2 1 25 false] (ap [gL 27 26 25 false,jG 28 (.bin
 .gtr (.t 27) (kI 1099511627776)) 25 false] (ap [.a 29 (.pick (.t 25) kT (.t 28)),jm 30 29,gO 31 3 1 30 false] (ap [gL 32 31 30 false,jG 33 (.bin
 .lss (.t 32) (kI 1)) 30 false] (ap [.a 34 (.pick (.t 30) kT (.t 33)),jm 35 34,gO 36 3 1 35 false] (ap [gL 37 36 35 false,jG 38 (.bin .gtr (.t 37)
 (kI 12)) 35 false] [.a 39 (.pick (.t 35) kT (.t 38))])))))))))))))) (jc 39 (jq ([.a 2 (.mv kF)]) .ret) .skip)) (jq ((ap [jo 40 3 1,jl 41 40,jb 42
 .eql 41 2] (ap [jm 43 42,gO 44 3 1 43 false] (ap [gL 45 44 43 false,jG 46 (.bin .eql (.t 45) (kI 3)) 43 false] (ap [.a 47 (.pick (.t 43) kT (.t 46)),
 jm 48 47,gO 49 3 1 48 false] (ap [gL 50 49 48 false,jG 51 (.bin .eql (.t 50) (kI 4)) 48 false] [.a 52 (.pick (.t 48) kT (.t 51)),jm 3 52])))))) (jq
 ((ap [jo 53 3 1,jl 54 53,jb 55 .eql 54 5] (ap [jm 56 55,gO 57 3 1 56 false] (ap [gL 58 57 56 false,jG 59 (.bin .eql (.t 58) (kI 6)) 56 false] (ap
 [.a 60 (.pick (.t 56) kT (.t 59)),jm 61 60,gO 62 3 1 61 false] (ap [gL 63 62 61 false,jG 64 (.bin .eql (.t 63) (kI 7)) 61 false] [.a 65 (.pick (.t
 61) kT (.t 64)),jm 4 65])))))) (jq ((ap [jo 66 3 1,jl 67 66,jb 68 .eql 67 3] (ap [jm 69 68,gO 70 3 1 69 false] (ap [gL 71 70 69 false,jG 72 (.bin
 .eql (.t 71) (kI 7)) 69 false] [.a 73 (.pick (.t 69) kT (.t 72)),jm 5 73])))) (.seq (.block 0 (jq ((ap [jo 75 3 1,jl 76 75,jb 77 .eql 76 1] [jm 74
 77])) (jc 74 (jq ((ap [jo 78 8 1,jl 79 78,.a 80 (.call (kC 145) [(.t 79)])] [.a 81 (.unot (.t 80))])) (jc 81 (jq ([.a 2 (.mv kF)]) .ret) .skip)) (jq
 ((ap [jo 83 8 1,jl 84 83,je 85 84,jb 86 .gtr 85 0] [jm 82 86])) (jc 82 (jq ([.a 2 (.mv kF)]) .ret) .skip))))) (.seq (jq ((ap [jm 87 3,jm 88 87,gO
 89 4 1 88 true] (ap [gL 90 89 88 true,jG 91 (.bin .lss (.t 90) (kI 0)) 88 true] (ap [gM 92 91 88 true,gO 93 4 1 92 false] (ap [gL 94 93 92 false,jG
 95 (.bin .geq (.t 94) (kI 8)) 92 false] (ap [jG 96 (.pick (.t 92) kT (.t 95)) 88 true] (ap [gM 97 96 88 true,gO 98 5 1 97 false] (ap [gL 99 98 97
 false,jG 100 (.bin .lss (.t 99) (kI 1)) 97 false] (ap [jG 101 (.pick (.t 97) kT (.t 100)) 88 true] (ap [gM 102 101 88 true,gO 103 5 1 102 false] (ap
 [gL 104 103 102 false,jG 105 (.bin .gtr (.t 104) (kI 5)) 102 false] (ap [jG 106 (.pick (.t 102) kT (.t 105)) 88 true] (ap [.a 107 (.pick (.t 88) (.t
 106) kF),jm 108 107,gM 109 3 108 false] (ap [jG 110 (.unot (.t 109)) 108 false,gM 111 110 108 false,gO 112 4 1 111 true] (ap [gL 113 112 111 true,
 jG 114 (.bin .neq (.t 113) (kI 0)) 111 true] (ap [jG 115 (.pick (.t 111) (.t 114) kF) 108 false] [.a 116 (.pick (.t 108) kT (.t 115))]))))))))))))))))
 (jc 116 (jq ([.a 2 (.mv kF)]) .ret) .skip)) (.seq (jq ((ap [jo 117 3 1,jl 118 117,jb 119 .eql 118 5] (ap [jm 120 119,gO 121 5 1 120 true] (ap [gL
 122 121 120 true,jG 123 (.bin .lss (.t 122) (kI 1)) 120 true] (ap [gM 124 123 120 true,gO 125 5 1 124 false] (ap [gL 126 125 124 false,jG 127 (.bin
 .gtr (.t 126) (kI 1048576)) 124 false] (ap [jG 128 (.pick (.t 124) kT (.t 127)) 120 true] (ap [.a 129 (.pick (.t 120) (.t 128) kF),jm 130 129,gM 131
 3 130 false] (ap [jG 132 (.unot (.t 131)) 130 false,gM 133 132 130 false,gO 134 3 1 133 true] (ap [gL 135 134 133 true,jG 136 (.bin .neq (.t 135)
 (kI 5)) 133 true] (ap [jG 137 (.pick (.t 133) (.t 136) kF) 130 false] (ap [gM 138 137 130 false,gO 139 5 1 138 true] (ap [gL 140 139 138 true,jG 141
 (.bin .neq (.t 140) (kI 0)) 138 true] (ap [jG 142 (.pick (.t 138) (.t 141) kF) 130 false] [.a 143 (.pick (.t 130) kT (.t 142))])))))))))))))) (jc 143
 (jq ([.a 2 (.mv kF)]) .ret) .skip)) (.seq (jq ((ap [jm 144 4,jm 145 144,gO 146 6 1 145 true] (ap [gL 147 146 145 true,jG 148 (.call (kC 133) [(.t
 147)]) 145 true] (ap [jG 149 (.unot (.t 148)) 145 true,.a 150 (.pick (.t 145) (.t 149) kF),jm 151 150,gM 152 4 151 false] (ap [jG 153 (.unot (.t
 152)) 151 false,gM 154 153 151 false,gO 155 6 1 154 true] (ap [gL 156 155 154 true,jG 157 (.bin .neq (.t 156) (.c (.f (.v (.string ⟨#[]⟩))))) 154
 true] (ap [jG 158 (.pick (.t 154) (.t 157) kF) 151 false] [.a 159 (.pick (.t 151) kT (.t 158))]))))))) (jc 159 (jq ([.a 2 (.mv kF)]) .ret) .skip)) (jq
 ((ap [jm 160 5,jm 161 160,gO 162 7 1 161 true] (ap [gL 163 162 161 true,jG 164 (.slen (.t 163)) 161 true,jG 165 (.bin .leq (.t 164) (kI 40)) 161
 true] (ap [.a 166 (.pick (.t 161) (.t 165) kF),jm 167 166,gO 168 7 1 167 false] (ap [gL 169 168 167 false,jG 170 (.slen (.t 169)) 167 false,jG 171
 (.bin .eql (.t 170) (kI 0)) 167 false] [.a 172 (.pick (.t 167) kT (.t 171)),jm 2 172]))))) .ret))))))))))
theorem s0J:Fn Tryz.prog 103 173 [.t 2] l0T:=.of Tryz.func103 (by kernel_rfl)
def d0N:SCode :=
  (jq ([.a 2 (.mv kF)]) (jq ((ap [jm 3 0,jb 4 .geq 3 1] (ap [jm 5 4,gM 6 0 5 true] (ap [jG 7 (.bin .leq (.t 6) (kI 1099511627776)) 5 true] (ap [.a 8
 (.pick (.t 5) (.t 7) kF),jm 9 8,gM 10 0 9 true] (ap [jG 11 (.call (kC 152) [(.t 10)]) 9 true] (ap [jG 12 (.bin .geq (.t 11) (kI 1)) 9 true] (ap [.a
 13 (.pick (.t 9) (.t 12) kF),jm 14 13,gM 15 0 14 true] (ap [jG 16 (.call (kC 152) [(.t 15)]) 14 true] (ap [jG 17 (.bin .leq (.t 16) (kI 8)) 14 true]
 [.a 18 (.pick (.t 14) (.t 17) kF),jm 2 18])))))))))) .ret))
theorem f0X:Fn Tryz.prog 114 19 [.t 2] d0N:=.of Tryz.func114 (by kernel_rfl)
def m0R:SCode :=
 (jq ([jk 2 0]) (jq ([jm 3 0,jb 4 .rem 3 10,jb 5 .add 4 10,jb 6 .rem 5 10,jm 2 6]) .ret))
theorem s0d:Fn Tryz.prog 152 7 [.t 2] m0R:=.of Tryz.func152 (by kernel_rfl)
def i0L:SCode :=
  (jq ([.a 2 (.mv kF)]) (.seq (jq ([jk 3 0]) (.block 0 (.loop (.seq (jq ([jm 4 3,jm 5 0,.a 6 (.strlen (.t 5)),jB 7 .lss 4 6]) (jc 7 .skip (.exit 0)))
 (.seq (.block 1 (jq ((ap [jm 10 0,jm 11 3,.a 12 (.sidx (.t 10) (.t 11)),.a 13 (.bin .geq (.t 12) (.c (.f (.v (.int .u8 97)))))] (ap [jm 14 13,gM 15
 0 14 true] (ap [gM 16 3 14 true,jG 17 (.sidx (.t 15) (.t 16)) 14 true,jG 18 (.bin .leq (.t 17) (.c (.f (.v (.int .u8 122))))) 14 true] (ap [.a 19
 (.pick (.t 14) (.t 18) kF),jm 20 19,gM 21 0 20 false] (ap [gM 22 3 20 false,jG 23 (.sidx (.t 21) (.t 22)) 20 false,jG 24 (.bin .geq (.t 23) (.c (.f
 (.v (.int .u8 48))))) 20 false] (ap [gM 25 24 20 false,gM 26 0 25 true] (ap [gM 27 3 25 true,jG 28 (.sidx (.t 26) (.t 27)) 25 true,jG 29 (.bin .leq
 (.t 28) (.c (.f (.v (.int .u8 57))))) 25 true] (ap [jG 30 (.pick (.t 25) (.t 29) kF) 20 false] (ap [.a 31 (.pick (.t 20) kT (.t 30)),jm 32 31,gM 33 0
 32 false] (ap [gM 34 3 32 false,jG 35 (.sidx (.t 33) (.t 34)) 32 false,jG 36 (.bin .eql (.t 35) (.c (.f (.v (.int .u8 45))))) 32 false] [.a 37 (.pick
 (.t 32) kT (.t 36)),.a 38 (.unot (.t 37))]))))))))))) (jc 38 (jq ([.a 2 (.mv kF)]) .ret) .skip))) (.ops [jm 8 3,jb 9 .add 8 1,jm 3 9])))))) (jq ((ap
 [jm 39 0,.a 40 (.strlen (.t 39)),jb 41 .geq 40 1] (ap [jm 42 41,gM 43 0 42 true] (ap [jG 44 (.strlen (.t 43)) 42 true,jG 45 (.bin .leq (.t 44) (kI
 16)) 42 true] [.a 46 (.pick (.t 42) (.t 45) kF),jm 2 46])))) .ret)))
theorem r0W:Fn Tryz.prog 133 47 [.t 2] i0L:=.of Tryz.func133 (by kernel_rfl)
def e0l:SCode :=
  (jq ([.a 2 (.mv kF)]) (.seq (jq ([jk 3 0]) (.block 0 (.loop (.seq (jq ([jm 6 3,jm 7 0,je 8 7,jB 9 .lss 6 8]) (jc 9 .skip (.exit 0))) (.seq (.block 1
 (jq ([jm 12 0,jm 13 3,jx 14 3 12 13,jL 15 3 14,.a 4 (.alloc 123 [jN,jI,jI]),.n (.store 3 (.t 4) (.t 15))]) (.seq (jq ((ap [jo 16 1 4,jl 17 16,
 jb 18 .lss 17 1] (ap [jm 19 18,gO 20 1 4 19 false] (ap [gL 21 20 19 false,jG 22 (.bin .gtr (.t 21) (kI 5)) 19 false] (ap [.a 23 (.pick (.t 19) kT (.t
 22)),jm 24 23,gO 25 2 4 24 false] (ap [gL 26 25 24 false,jG 27 (.bin .lss (.t 26) (kI 1)) 24 false] (ap [.a 28 (.pick (.t 24) kT (.t 27)),jm 29 28,
 gO 30 2 4 29 false] (ap [gL 31 30 29 false,jG 32 (.bin .gtr (.t 31) (kI 1048576)) 29 false] [.a 33 (.pick (.t 29) kT (.t 32))])))))))) (jc 33 (jq ([.a
 2 (.mv kF)]) .ret) .skip)) (jq ([jk 5 0]) (.block 2 (.loop (.seq (jq ([jm 34 5,jo 35 0 4,jl 36 35,je 37 36,jB 38 .lss 34 37]) (jc 38 .skip (.exit
 2))) (.seq (.block 3 (.seq (.drw [jo 41 0 4,jl 42 41,jm 43 5,jx 44 1 42 43,jl 45 44,jb 46 .lss 45 0,jm 47 46,gO 48 0 4 47 false,gL 49 48 47
 false,gM 50 5 47 false,jG 51 (.idx 1 (.t 49) (.t 50)) 47 false,gL 52 51 47 false,gM 53 0 47 false,jG 54 (.slen (.t 53)) 47 false,jG 55 (.bin .geq
 (.t 52) (.t 54)) 47 false,.a 56 (.pick (.t 47) kT (.t 55)),jm 57 56,gM 58 5 57 false,jG 59 (.bin .gtr (.t 58) (kI 0)) 57 false,gM 60 59 57 false,
 gO 61 0 4 60 true,gL 62 61 60 true,gM 63 5 60 true,jG 64 (.idx 1 (.t 62) (.t 63)) 60 true,gL 65 64 60 true,gO 66 0 4 60 true,gL 67 66 60 true,gM
 68 5 60 true,jG 69 (.bin .sub (.t 68) (kI 1)) 60 true,jG 70 (.idx 1 (.t 67) (.t 69)) 60 true,gL 71 70 60 true,jG 72 (.bin .leq (.t 65) (.t 71)) 60
 true,jG 73 (.pick (.t 60) (.t 72) kF) 57 false,.a 74 (.pick (.t 57) kT (.t 73))] [0,1,0,7,15,31,63,127,255,127,1023,2047,127,4223,
 16383,32767,65535,131071,262143,524287,1048575,2097151,1048575,8388607,16777215,1048575,34603007,1048575,135266303,504365055,
 1041235967,2147483647,4294967295,8589934591]) (jc 74 (jq ([.a 2 (.mv kF)]) .ret) .skip))) (.ops [jm 39 5,jb 40 .add 39 1,jm 5 40]))))))))) (.ops
 [jm 10 3,jb 11 .add 10 1,jm 3 11])))))) (jq ((ap [jm 75 0,je 76 75,jb 77 .geq 76 1] (ap [jm 78 77,gM 79 0 78 true] (ap [jG 80 (.slen (.t 79)) 78
 true,jG 81 (.bin .leq (.t 80) (kI 8)) 78 true] [.a 82 (.pick (.t 78) (.t 81) kF),jm 2 82])))) .ret)))
theorem j0V:Fn Tryz.prog 145 83 [.t 2] e0l:=.of Tryz.func145 (by kernel_rfl)
end Go.Proofs.YthjgmldnegaaiaaGreatDoor.Mir
