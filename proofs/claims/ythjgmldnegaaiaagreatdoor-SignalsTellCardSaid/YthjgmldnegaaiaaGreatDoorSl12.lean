/- Lemmas for the proof. No condition. -/
import Derived.Test.YthjgmldnegaaiaaGreatDoorSl11
set_option linter.unusedVariables false
set_option linter.unusedSimpArgs false
namespace Go.Proofs.YthjgmldnegaaiaaGreatDoor.Mir
open Go Go.RowKit
set_option maxHeartbeats 4000000
theorem b0p {id ver time closed:Int}{cancel:Bool}{defs:List Nd}{nodes:List Nn}{tms:List Tm}{sgs:List Sg}{r:Nat}{H:List Row}(h:H[r]?=some (.data 158 (nodes.flatMap Nn.cs))):Vw H (.ag [.f (.v (.int .i64 id)),.f (.v (.int .i64 ver)),.f (.v (.int .i64 time)),.f (.v (.int .i64 closed)),.f (.v (.bool cancel)),.f (fG defs),.sl r 0 nodes.length,.f (fTm tms),.f (fSg sgs)]) (stD ⟨id,ver,time,closed,cancel,defs,nodes,tms,sgs⟩) :=
 .ags (.cons .f (.cons .f (.cons .f (.cons .f (.cons .f (.cons .f (.cons (.sl (xs:=nodes.flatMap Nn.cs) h (fun e=>by rw [List.eq_nil_of_length_eq_zero e];try rfl)) (.cons .f (.cons .f .nil)))))))))
instance {id ver time closed:Int}{cancel:Bool}{defs:List Nd}{nodes:List Nn}{tms:List Tm}{sgs:List Sg}{r:Nat}{H:List Row}{nm:Bs}{K:D→List Row→Prop}:Wa (a0R Tryz.prog (.fn 30 []) [.ag [.f (.v (.int .i64 id)),.f (.v (.int .i64 ver)),.f (.v (.int .i64 time)),.f (.v (.int .i64 closed)),.f (.v (.bool cancel)),.f (fG defs),.sl r 0 nodes.length,.f (fTm tms),.f (fSg sgs)],.f (.v (.string (BB nm)))] H K)
  (H[r]?=some (.data 158 (nodes.flatMap Nn.cs))∧sgs.length≤1000000∧K (.f (.v (.bool (c0i sgs nm)))) H):=⟨fun h=>by
 refine a0W (j0E ⟨id,ver,time,closed,cancel,defs,nodes,tms,sgs⟩ nm h.2.1) (.cons (b0p h.1) (.cons .f .nil)) ?_ ?_
 ·rintro _ _ ⟨rfl,rfl⟩
  exact ⟨.f .v,by simp⟩
 ·rintro _ _ ⟨rfl,rfl⟩
  show K (.f (.v (.bool (c0i sgs nm)))) (_++[])
  rw [List.append_nil];exact h.2.2⟩
instance {id ver time closed:Int}{cancel:Bool}{defs:List Nd}{nodes:List Nn}{tms:List Tm}{sgs:List Sg}{r:Nat}{H:List Row}{nm:Int}{K:D→List Row→Prop}:Wa (a0R Tryz.prog (.fn 107 []) [.ag [.f (.v (.int .i64 id)),.f (.v (.int .i64 ver)),.f (.v (.int .i64 time)),.f (.v (.int .i64 closed)),.f (.v (.bool cancel)),.f (fG defs),.sl r 0 nodes.length,.f (fTm tms),.f (fSg sgs)],.f (.v (.int .i64 nm))] H K)
  (H[r]?=some (.data 158 (nodes.flatMap Nn.cs))∧nodes.length≤1000000∧K (.f (.v (.int .i64 (cntL nodes nm)))) H):=⟨fun h=>by
 refine a0W (d0R ⟨id,ver,time,closed,cancel,defs,nodes,tms,sgs⟩ nm h.2.1) (.cons (b0p h.1) (.cons .f .nil)) ?_ ?_
 ·rintro _ _ ⟨rfl,rfl⟩
  exact ⟨.f .v,by simp⟩
 ·rintro _ _ ⟨rfl,rfl⟩
  show K (.f (.v (.int .i64 (cntL nodes nm)))) (_++[])
  rw [List.append_nil];exact h.2.2⟩
instance {id ver time closed:Int}{cancel:Bool}{defs:List Nd}{nodes:List Nn}{tms:List Tm}{sgs:List Sg}{r:Nat}{H:List Row}{nm:Bs}{K:Bool→D→List Row→Prop}:Wa (a0e Tryz.prog (.fn 148 []) [.ag [.f (.v (.int .i64 id)),.f (.v (.int .i64 ver)),.f (.v (.int .i64 time)),.f (.v (.int .i64 closed)),.f (.v (.bool cancel)),.f (fG defs),.sl r 0 nodes.length,.f (fTm tms),.f (fSg sgs)],.f (.v (.string (BB nm)))] H K)
  (H[r]?=some (.data 158 (nodes.flatMap Nn.cs))∧tms.length≤1000000∧K false (.f (.v (.int .i64 (tmI tms nm)))) H):=⟨fun h=>by
 refine d0V (t0X ⟨id,ver,time,closed,cancel,defs,nodes,tms,sgs⟩ nm h.2.1) (.cons (b0p h.1) (.cons .f .nil)) ⟨.f .v,by simp⟩ ?_
 show K false (.f (.v (.int .i64 (tmI tms nm)))) (_++[])
 rw [List.append_nil];exact h.2.2⟩
instance {id ver time closed:Int}{cancel:Bool}{defs:List Nd}{nodes:List Nn}{tms:List Tm}{sgs:List Sg}{r:Nat}{H:List Row}{nm:Int}{K:Bool→D→List Row→Prop}:Wa (a0e Tryz.prog (.fn 107 []) [.ag [.f (.v (.int .i64 id)),.f (.v (.int .i64 ver)),.f (.v (.int .i64 time)),.f (.v (.int .i64 closed)),.f (.v (.bool cancel)),.f (fG defs),.sl r 0 nodes.length,.f (fTm tms),.f (fSg sgs)],.f (.v (.int .i64 nm))] H K)
  (H[r]?=some (.data 158 (nodes.flatMap Nn.cs))∧nodes.length≤1000000∧K false (.f (.v (.int .i64 (cntL nodes nm)))) H):=⟨fun h=>by
 refine d0V (d0R ⟨id,ver,time,closed,cancel,defs,nodes,tms,sgs⟩ nm h.2.1) (.cons (b0p h.1) (.cons .f .nil)) ⟨.f .v,by simp⟩ ?_
 show K false (.f (.v (.int .i64 (cntL nodes nm)))) (_++[])
 rw [List.append_nil];exact h.2.2⟩
def stKT (a b:Nat)(s:S12):List D:=[D.int s.id,D.int s.ver,D.int s.time,D.int s.closed,D.bool s.cancel,.f (fG s.defs),.sl a 0 s.nodes.length,.sl b 0 s.tms.length,.f (fSg s.sgs)]
def a0g (s:S12)(e:Ev):Int × S12:=if e.ty=5 then armL s e else c0R s e
set_option maxRecDepth 100000 in
theorem d0h (s:S12)(e:Ev)(hl:s.tms.length≤1000000)(ht:0≤e.time∧e.time≤1099511627776)(hn:e.ty=5→0≤e.n∧e.n≤1048576) :
    Con Tryz.prog 106 [.pt 0 0,evD e] [.box 65 (stK 1 s),rN s.nodes] fun r H'=>r=D.int (a0g s e).1 ∧
      (((a0g s e).1≠0∧H'=[.box 65 (stK 1 s),rN s.nodes])∨((a0g s e).1=0∧H'=[.box 65 (stKT 1 2 (a0g s e).2),rN s.nodes,rT (a0g s e).2.tms])):=by
  obtain ⟨id,ver,time,closed,cancel,defs,nodes,tms,sgs⟩:=s
  dsimp only at hl
  suffices hh:∀ Q:D→List Row→Prop,(∀ r H',r=D.int (a0g ⟨id,ver,time,closed,cancel,defs,nodes,tms,sgs⟩ e).1→(((a0g ⟨id,ver,time,closed,cancel,defs,nodes,tms,sgs⟩ e).1≠0∧H'=[.box 65 (stK 1 ⟨id,ver,time,closed,cancel,defs,nodes,tms,sgs⟩),rN nodes])∨((a0g ⟨id,ver,time,closed,cancel,defs,nodes,tms,sgs⟩ e).1=0∧H'=[.box 65 (stKT 1 2 (a0g ⟨id,ver,time,closed,cancel,defs,nodes,tms,sgs⟩ e).2),rN nodes,rT (a0g ⟨id,ver,time,closed,cancel,defs,nodes,tms,sgs⟩ e).2.tms]))→Q r H')→Con Tryz.prog 106 [.pt 0 0,evD e] [.box 65 (stK 1 ⟨id,ver,time,closed,cancel,defs,nodes,tms,sgs⟩),rN nodes] Q from hh _ fun _ _ h1 h2=>⟨h1,h2⟩
  intro Q hQ
  have hlt:=u0X tms e.name
  refine Con.walk good g0L (by simp) ?_
  unfold d0d
  simp only [a0K,evD,stK,rN]
  repeat' (with_reducible first|refine Wx.h ?_|refine We.h fun K hK=>?_|refine Wd.h fun K M hK hM=>?_|(refine hK _ _ _ _ ?_;clear hK K;try clear hM M)|(refine hM ?_;clear hM M;try clear hK K)|refine Wb.h fun K hK=>?_|(refine hK _ ?_;clear hK K)|(refine wT ?_ ?_;assumption)|(refine wF ?_ ?_;assumption)|(refine Wy.h ?_ ?_;kernel_rfl)|refine Wq.h ?_ ?_<;>intro h<;>try (exfalso;omega)|refine Wu.h ?_ ?_<;>intro h<;>try simp only [h]|((fail_if_success refine Wz.h ?_);first|simp (disch:=omega) only [↓LD,LA,a0A,seval,LSt,f0y,i0v,y0J,e0n,List.length_set,List.getElem?_set_ne,Tm.cs]|(refine And.intro ?_ ?_;omega)|simp only [D.int,D.bool]))
  all_goals first
    | (have hb:a0g ⟨id,ver,time,closed,cancel,defs,nodes,tms,sgs⟩ e=(13,⟨id,ver,time,closed,cancel,defs,nodes,tms,sgs⟩):=by (unfold a0g armL;rw [if_pos (by assumption),if_pos (by assumption)])
       rw [hb] at hQ
       exact end1 rfl rfl (by kernel_rfl) .f (hQ _ _ rfl (.inl ⟨by simp,rfl⟩)))
    | (have hb:a0g ⟨id,ver,time,closed,cancel,defs,nodes,tms,sgs⟩ e=(4,⟨id,ver,time,closed,cancel,defs,nodes,tms,sgs⟩):=by (unfold a0g armL;rw [if_pos (by assumption),if_neg (by assumption),if_pos (show 8≤tms.length by omega)])
       rw [hb] at hQ
       exact end1 rfl rfl (by kernel_rfl) .f (hQ _ _ rfl (.inl ⟨by simp,rfl⟩)))
    | (have hb:a0g ⟨id,ver,time,closed,cancel,defs,nodes,tms,sgs⟩ e=(4,⟨id,ver,time,closed,cancel,defs,nodes,tms,sgs⟩):=by (unfold a0g c0R;rw [if_neg (by assumption),if_pos (by assumption)])
       rw [hb] at hQ
       exact end1 rfl rfl (by kernel_rfl) .f (hQ _ _ rfl (.inl ⟨by simp,rfl⟩)))
    | (have hb:a0g ⟨id,ver,time,closed,cancel,defs,nodes,tms,sgs⟩ e=(4,⟨id,ver,time,closed,cancel,defs,nodes,tms,sgs⟩):=by (unfold a0g c0R;rw [if_neg (by assumption),if_neg (by assumption),if_pos (.inl (by assumption))])
       rw [hb] at hQ
       exact end1 rfl rfl (by kernel_rfl) .f (hQ _ _ rfl (.inl ⟨by simp,rfl⟩)))
    | (have hb:a0g ⟨id,ver,time,closed,cancel,defs,nodes,tms,sgs⟩ e=(4,⟨id,ver,time,closed,cancel,defs,nodes,tms,sgs⟩):=by (unfold a0g c0R;rw [if_neg (by assumption),if_neg (by assumption),if_pos (.inr (by assumption))])
       rw [hb] at hQ
       exact end1 rfl rfl (by kernel_rfl) .f (hQ _ _ rfl (.inl ⟨by simp,rfl⟩)))
    | (have hz:tms.length=0:=by assumption
       obtain rfl:=List.eq_nil_of_length_eq_zero hz
       have hb:a0g ⟨id,ver,time,closed,cancel,defs,nodes,[],sgs⟩ e=(0,⟨id,ver,time,closed,cancel,defs,nodes,[]++[(⟨e.name,e.time+e.n,false⟩:Tm)],sgs⟩):=by (unfold a0g armL;rw [if_pos (by assumption),if_neg (by assumption),if_neg (by simp)])
       rw [hb] at hQ
       exact endG rfl rfl (ef:=⟨D.int 0,[(0,.box 65 (stKT 1 2 ⟨id,ver,time,closed,cancel,defs,nodes,[]++[(⟨e.name,e.time+e.n,false⟩:Tm)],sgs⟩)),(1,rN nodes)],[rT ([]++[(⟨e.name,e.time+e.n,false⟩:Tm)])]⟩) (by kernel_rfl) (hQ _ _ rfl (.inr ⟨rfl,rfl⟩)))
    | (have hb:a0g ⟨id,ver,time,closed,cancel,defs,nodes,tms,sgs⟩ e=(0,⟨id,ver,time,closed,cancel,defs,nodes,tms++[(⟨e.name,e.time+e.n,false⟩:Tm)],sgs⟩):=by (unfold a0g armL;rw [if_pos (by assumption),if_neg (by assumption),if_neg (show ¬ 8≤tms.length by omega)])
       rw [hb] at hQ
       have e1:tms.flatMap Tm.cs++[F.v (.string (BB e.name)),.v (.int .i64 (e.time+e.n)),.v (.bool false)]=(tms++[(⟨e.name,e.time+e.n,false⟩:Tm)]).flatMap Tm.cs:=by simp [Tm.cs]
       have e2:tms.length+1=(tms++[(⟨e.name,e.time+e.n,false⟩:Tm)]).length:=by simp
       rw [e1,e2]
       exact endG rfl rfl (ef:=⟨D.int 0,[(0,.box 65 (stKT 1 2 ⟨id,ver,time,closed,cancel,defs,nodes,tms++[(⟨e.name,e.time+e.n,false⟩:Tm)],sgs⟩)),(1,rN nodes)],[rT (tms++[(⟨e.name,e.time+e.n,false⟩:Tm)])]⟩) (by kernel_rfl) (hQ _ _ rfl (.inr ⟨rfl,rfl⟩)))
    | (have hb:a0g ⟨id,ver,time,closed,cancel,defs,nodes,tms,sgs⟩ e=(0,⟨id,ver,time,closed,cancel,defs,nodes,tms.set (tmI tms e.name).toNat { gt tms (tmI tms e.name).toNat with fired:=true },sgs⟩):=by (unfold a0g c0R;rw [if_neg (by assumption),if_neg (by assumption),if_neg (by simp_all)])
       rw [hb] at hQ
       have hnl:(tmI tms e.name).toNat<tms.length:=by omega
       rw [b0N (cs:=Tm.cs) s0H (j:=2) (y:={ gt tms (tmI tms e.name).toNat with fired:=true }) (by omega) hnl rfl]
       have e2:tms.length=(tms.set (tmI tms e.name).toNat { gt tms (tmI tms e.name).toNat with fired:=true }).length:=by simp
       generalize hX:(tms.set (tmI tms e.name).toNat { gt tms (tmI tms e.name).toNat with fired:=true })=X at *
       refine endG rfl rfl (ef:=⟨D.int 0,[(0,.box 65 (stKT 1 2 ⟨id,ver,time,closed,cancel,defs,nodes,X,sgs⟩)),(1,rN nodes)],[rT X]⟩) ?_ (hQ _ _ rfl (.inr ⟨rfl,rfl⟩))
       rw [stKT,←e2]
       kernel_rfl)
theorem w0q (v:Int):Con Tryz.prog 152 [D.int v] [] fun r H'=>r=D.int (ownI v)∧H'=[]:=by
 have h1:=Int.tmod_lt_of_pos v (show (0:Int)<10 by omega)
 have h2 : -10<v.tmod 10:=by
  have:=Int.tmod_lt_of_pos (-v) (show (0:Int)<10 by omega)
  rw [Int.neg_tmod] at this;omega
 refine Con.walk good s0s (by simp) ?_
 unfold l0m
 simp only [a0K]
 repeat' (with_reducible first|refine Wx.h ?_|refine Wb.h fun K hK=>?_|(refine hK _ ?_;clear hK K)|(refine wT ?_ ?_;assumption)|(refine wF ?_ ?_;assumption)|(refine Wy.h ?_ ?_;kernel_rfl)|refine Wq.h ?_ ?_<;>intro h<;>try (exfalso;omega)|refine Wu.h ?_ ?_<;>intro h<;>try simp only [h]|((fail_if_success refine Wz.h ?_);first|simp (disch:=omega) only [↓LD,LA,a0A,seval]|(refine And.intro ?_ ?_;omega)|simp only [D.int,D.bool]))
 refine end1 rfl rfl (by kernel_rfl) .f ⟨rfl,rfl⟩
instance {n:Int}{H:List Row}{K:D→List Row→Prop}:Wa (a0R Tryz.prog (.fn 152 []) [.f (.v (.int .i64 n))] H K) (K (.f (.v (.int .i64 (ownI n)))) H) :=
 ⟨fun h=>a0C (w0q n) rfl rfl rfl h⟩
theorem g0T (v:Int):Con Tryz.prog 114 [D.int v] [] fun r H'=>r=D.bool (verB v)∧H'=[]:=by
 refine Con.walk good f0F (by simp) ?_
 unfold d0D
 simp only [a0K]
 repeat' (with_reducible first|refine Wx.h ?_|refine We.h fun K hK=>?_|refine Wd.h fun K M hK hM=>?_|(refine hK _ _ _ _ ?_;clear hK K;try clear hM M)|(refine hM ?_;clear hM M;try clear hK K)|refine Wb.h fun K hK=>?_|(refine hK _ ?_;clear hK K)|(refine wT ?_ ?_;assumption)|(refine wF ?_ ?_;assumption)|(refine Wy.h ?_ ?_;kernel_rfl)|refine Wq.h ?_ ?_<;>intro h<;>try (exfalso;omega)|refine Wu.h ?_ ?_<;>intro h<;>try simp only [h]|((fail_if_success refine Wz.h ?_);first|simp (disch:=omega) only [↓LD,LA,a0A,seval]|(refine And.intro ?_ ?_;omega)|simp only [D.int,D.bool]))
 all_goals (refine end1 rfl rfl (by kernel_rfl) .f ⟨congrArg D.bool ?_,rfl⟩;simp [verB,inI, *])
theorem s0c (l:Bs)(hl:l.length≤1000000):Con Tryz.prog 133 [.f (.v (.string (BB l)))] [] fun r H'=>r=D.bool (e0D l)∧H'=[]:=by
  refine Con.walk good p0g (by simp) ?_
  unfold j0a
  simp only [a0K]
  repeat' (with_reducible first|refine Wx.h ?_|refine Wb.h fun K hK=>?_|(refine hK _ ?_;clear hK K)|(refine wT ?_ ?_;assumption)|(refine wF ?_ ?_;assumption)|(refine Wy.h ?_ ?_;kernel_rfl)|refine Wq.h ?_ ?_<;>intro h<;>try (exfalso;omega)|refine Wu.h ?_ ?_<;>intro h<;>try simp only [h]|((fail_if_success refine Wz.h ?_);first|simp (disch:=omega) only [↓LD,LA,a0A,seval]|(refine And.intro ?_ ?_;omega)|simp only [D.int,D.bool]))
  refine HS.loopG [0,3] (fun k:Nat=>⟨frm 47 [(0,.f (.v (.string (BB l)))),(3,D.int k)],[],[]⟩) (fun k=>k≤l.length∧l.all chB=(l.drop k).all chB) (fun k=>l.length-k) 0 (by kernel_rfl) ⟨Nat.zero_le _,rfl⟩ ?_
  rintro k ⟨hk,hr⟩
  by_cases hkl:k<l.length
  · have hg:=getElem?_some_of hkl
    rw [a0G hkl,List.all_cons] at hr
    repeat' (with_reducible first|refine Wx.h ?_|refine Wb.h fun K hK=>?_|(refine hK _ ?_;clear hK K)|(refine wT ?_ ?_;assumption)|(refine wF ?_ ?_;assumption)|(refine Wy.h ?_ ?_;kernel_rfl)|refine Wq.h ?_ ?_<;>intro h<;>try (exfalso;omega)|refine Wu.h ?_ ?_<;>intro h<;>try simp only [h]|((fail_if_success refine Wz.h ?_);first|simp (disch:=omega) only [↓LD,LA,a0A,seval,hg]|(refine And.intro ?_ ?_;omega)|simp only [D.int,D.bool]))
    all_goals first
      | (refine end1 rfl rfl (by kernel_rfl) .f ⟨congrArg D.bool ?_,rfl⟩
         have hc:chB (gt l k)=false:=by simp only [chB,inI];simp [*]
         rw [e0D,hr,hc];simp)
      | (refine Next.mk (k+1) (by kernel_rfl) ⟨by omega,?_⟩ (by omega)
         have hc:chB (gt l k)=true:=by simp only [chB,inI];simp [*]
         rw [hr,hc];try rfl)
  · rw [List.drop_of_length_le (by omega),List.all_nil] at hr
    have hz:((1:Int)≤l.length)=(l≠[]):=by apply propext;cases l<;>simp;omega
    repeat' (with_reducible first|refine Wx.h ?_|refine Wb.h fun K hK=>?_|(refine hK _ ?_;clear hK K)|(refine wT ?_ ?_;assumption)|(refine wF ?_ ?_;assumption)|(refine Wy.h ?_ ?_;kernel_rfl)|refine Wq.h ?_ ?_<;>intro h<;>try (exfalso;omega)|refine Wu.h ?_ ?_<;>intro h<;>try simp only [h]|((fail_if_success refine Wz.h ?_);first|simp (disch:=omega) only [↓LD,LA,a0A,seval]|(refine And.intro ?_ ?_;omega)|simp only [D.int,D.bool]))
    all_goals (refine end1 rfl rfl (by kernel_rfl) .f ⟨congrArg D.bool ?_,rfl⟩;rw [e0D,hr])
    all_goals first
      | (rw [decide_eq_true (p:=l≠[]) (by rw [←hz];assumption),decide_eq_true (p:=l.length≤16) (by omega)];rfl)
      | (rw [decide_eq_false (p:=l.length≤16) (by omega)];simp;done)
      | (rw [decide_eq_false (p:=l≠[]) (by rw [←hz];assumption)];rfl)
instance {n:Int}{H:List Row}{K:D→List Row→Prop}:Wa (a0R Tryz.prog (.fn 114 []) [.f (.v (.int .i64 n))] H K) (K (.f (.v (.bool (verB n)))) H) :=
 ⟨fun h=>a0C (g0T n) rfl rfl rfl h⟩
instance {l:Bs}{H:List Row}{K:D→List Row→Prop}:Wa (a0R Tryz.prog (.fn 133 []) [.f (.v (.string (BB l)))] H K) (l.length≤1000000∧K (.f (.v (.bool (e0D l)))) H) :=
 ⟨fun h=>a0C (s0c l h.1) rfl rfl rfl h.2⟩
theorem k0o (ds:List Nd)(hf:FitN ds)(hl:ds.length<1000000):Con Tryz.prog 145 [.f (fG ds)] [] fun r H'=>r=D.bool (j0W ds)∧H'=[]:=by
 have hn:=hf
 have hc1:ds.all (fun d=>a0x d ds.length)=false→j0W ds=false:=fun h=>by rw [j0W,h];try rfl
 refine Con.walk good i0T (by simp) ?_
 unfold e0k
 simp only [a0K]
 repeat' (with_reducible first|refine Wx.h ?_|refine Wb.h fun K hK=>?_|(refine hK _ ?_;clear hK K)|(refine wT ?_ ?_;assumption)|(refine wF ?_ ?_;assumption)|(refine Wy.h ?_ ?_;kernel_rfl)|refine Wq.h ?_ ?_<;>intro h<;>try (exfalso;omega)|refine Wu.h ?_ ?_<;>intro h<;>try simp only [h]|((fail_if_success refine Wz.h ?_);first|simp (disch:=omega) only [↓LD,LA,a0A,seval,fG]|(refine And.intro ?_ ?_;omega)|simp only [D.int,D.bool]))
 refine HS.loopG [0,3] (fun i:Nat=>⟨frm 83 [(0,.f (fG ds)),(3,D.int i)],[],[]⟩)
  (fun i=>i≤ds.length∧ds.all (fun d=>a0x d ds.length)=(ds.drop i).all (fun d=>a0x d ds.length)) (fun i=>ds.length-i) 0 (by kernel_rfl) ⟨Nat.zero_le _,rfl⟩ ?_
 rintro i ⟨hi,ha⟩
 by_cases hil:i<ds.length
 ·have hnl:=hn _ (a0L hil)
  rw [a0G hil,List.all_cons,i0E] at ha
  by_cases htl:1≤(gt ds i).tr∧(gt ds i).tr≤5∧1≤(gt ds i).le∧(gt ds i).le≤1048576
  rotate_left
  ·have hc:=hc1 (by rw [ha,show (decide (1≤(gt ds i).tr)&&decide ((gt ds i).tr≤5)&&decide (1≤(gt ds i).le)&&decide ((gt ds i).le≤1048576))=false by simp only [Bool.and_eq_false_iff,decide_eq_false_iff_not];omega,Bool.and_false,Bool.false_and])
   repeat' (with_reducible first|refine Wx.h ?_|refine Wb.h fun K hK=>?_|(refine hK _ ?_;clear hK K)|(refine wT ?_ ?_;assumption)|(refine wF ?_ ?_;assumption)|(refine Wy.h ?_ ?_;kernel_rfl)|refine Wq.h ?_ ?_<;>intro h<;>try (exfalso;omega)|refine Wu.h ?_ ?_<;>intro h<;>try simp only [h]|((fail_if_success refine Wz.h ?_);first|simp (disch:=omega) only [↓LD,LA,a0A,seval,fG,b0H,c0S,b0P,b0O,b0J,-a0A]|(refine And.intro ?_ ?_;omega)|simp only [D.int,D.bool]))
   all_goals exact end1 rfl rfl (by kernel_rfl) .f ⟨by rw [hc];try rfl,rfl⟩
  rw [show (decide (1≤(gt ds i).tr)&&decide ((gt ds i).tr≤5)&&decide (1≤(gt ds i).le)&&decide ((gt ds i).le≤1048576))=true by simp only [Bool.and_eq_true,decide_eq_true_eq];omega,Bool.and_true] at ha
  repeat' (with_reducible first|refine Wx.h ?_|refine Wb.h fun K hK=>?_|(refine hK _ ?_;clear hK K)|(refine wT ?_ ?_;assumption)|(refine wF ?_ ?_;assumption)|(refine Wy.h ?_ ?_;kernel_rfl)|refine Wq.h ?_ ?_<;>intro h<;>try (exfalso;omega)|refine Wu.h ?_ ?_<;>intro h<;>try simp only [h]|((fail_if_success refine Wz.h ?_);first|simp (disch:=omega) only [↓LD,LA,a0A,seval,fG,b0H,c0S,b0P,b0O,b0J,-a0A]|(refine And.intro ?_ ?_;omega)|simp only [D.int,D.bool]))
  refine HS.loopG [0,3,4,5] (fun k:Nat=>⟨frm 83 [(0,.f (fG ds)),(3,D.int i),(4,.pt 0 0),(5,D.int k)],[.box 123 [.f (fI (gt ds i).ns),D.int (gt ds i).tr,D.int (gt ds i).le]],[]⟩)
   (fun k=>k≤(gt ds i).ns.length ∧ -1≤lstI (gt ds i).ns k∧rise ds.length (-1) (gt ds i).ns=rise ds.length (lstI (gt ds i).ns k) ((gt ds i).ns.drop k)) (fun k=>(gt ds i).ns.length-k) 0 (by kernel_rfl) ⟨Nat.zero_le _,by simp [lstI],rfl⟩ ?_
  rintro k ⟨hk,hlb,hrs⟩
  by_cases hkl:k<(gt ds i).ns.length
  ·rw [a0G hkl,rise] at hrs
   have hl1:lstI (gt ds i).ns (k+1)=gt (gt ds i).ns k:=by rw [lstI,if_neg (by omega)];try rfl
   by_cases hgd:lstI (gt ds i).ns k<gt (gt ds i).ns k∧gt (gt ds i).ns k<ds.length
   ·rw [decide_eq_true hgd.1,decide_eq_true hgd.2,←hl1] at hrs
    by_cases hk0:k=0
    ·subst hk0
     repeat' (with_reducible first|refine Wx.h ?_|refine We.h fun K hK=>?_|refine Wd.h fun K M hK hM=>?_|(refine hK _ _ _ _ ?_;clear hK K;try clear hM M)|(refine hM ?_;clear hM M;try clear hK K)|refine Wb.h fun K hK=>?_|(refine hK _ ?_;clear hK K)|(refine wT ?_ ?_;assumption)|(refine wF ?_ ?_;assumption)|(refine Wy.h ?_ ?_;kernel_rfl)|refine Wq.h ?_ ?_<;>intro h<;>try (exfalso;omega)|refine Wu.h ?_ ?_<;>intro h<;>try simp only [h]|((fail_if_success refine Wz.h ?_);first|simp (disch:=omega) only [↓LD,LA,a0A,seval,fG,fI]|(refine And.intro ?_ ?_;omega)|simp only [D.int,D.bool]))
     exact Next.mk 1 (by kernel_rfl) ⟨by omega,by rw [hl1];omega,by rw [hrs];try rfl⟩ (by omega)
    ·have hl2:lstI (gt ds i).ns k=gt (gt ds i).ns ((k:Int)-1).toNat:=by rw [lstI,if_neg hk0,show ((k:Int)-1).toNat=k-1 by omega]
     repeat' (with_reducible first|refine Wx.h ?_|refine We.h fun K hK=>?_|refine Wd.h fun K M hK hM=>?_|(refine hK _ _ _ _ ?_;clear hK K;try clear hM M)|(refine hM ?_;clear hM M;try clear hK K)|refine Wb.h fun K hK=>?_|(refine hK _ ?_;clear hK K)|(refine wT ?_ ?_;assumption)|(refine wF ?_ ?_;assumption)|(refine Wy.h ?_ ?_;kernel_rfl)|refine Wq.h ?_ ?_<;>intro h<;>try (exfalso;omega)|refine Wu.h ?_ ?_<;>intro h<;>try simp only [h]|((fail_if_success refine Wz.h ?_);first|simp (disch:=omega) only [↓LD,LA,a0A,seval,fG,fI]|(refine And.intro ?_ ?_;omega)|simp only [D.int,D.bool]))
     exact Next.mk (k+1) (by kernel_rfl) ⟨by omega,by rw [hl1];omega,by rw [hrs];try rfl⟩ (by omega)
   ·have hc:=hc1 (by rw [ha,hrs,show (decide (lstI (gt ds i).ns k<gt (gt ds i).ns k)&&decide (gt (gt ds i).ns k<ds.length))=false by simp only [Bool.and_eq_false_iff,decide_eq_false_iff_not];omega,Bool.false_and,Bool.false_and])
    by_cases hk0:k=0
    ·subst hk0
     have hl2:lstI (gt ds i).ns 0 = -1:=rfl
     repeat' (with_reducible first|refine Wx.h ?_|refine We.h fun K hK=>?_|refine Wd.h fun K M hK hM=>?_|(refine hK _ _ _ _ ?_;clear hK K;try clear hM M)|(refine hM ?_;clear hM M;try clear hK K)|refine Wb.h fun K hK=>?_|(refine hK _ ?_;clear hK K)|(refine wT ?_ ?_;assumption)|(refine wF ?_ ?_;assumption)|(refine Wy.h ?_ ?_;kernel_rfl)|refine Wq.h ?_ ?_<;>intro h<;>try (exfalso;omega)|refine Wu.h ?_ ?_<;>intro h<;>try simp only [h]|((fail_if_success refine Wz.h ?_);first|simp (disch:=omega) only [↓LD,LA,a0A,seval,fG,fI]|(refine And.intro ?_ ?_;omega)|simp only [D.int,D.bool]))
     all_goals exact end1 rfl rfl (by kernel_rfl) .f ⟨by rw [hc];try rfl,rfl⟩
    ·have hl2:lstI (gt ds i).ns k=gt (gt ds i).ns ((k:Int)-1).toNat:=by rw [lstI,if_neg hk0,show ((k:Int)-1).toNat=k-1 by omega]
     repeat' (with_reducible first|refine Wx.h ?_|refine We.h fun K hK=>?_|refine Wd.h fun K M hK hM=>?_|(refine hK _ _ _ _ ?_;clear hK K;try clear hM M)|(refine hM ?_;clear hM M;try clear hK K)|refine Wb.h fun K hK=>?_|(refine hK _ ?_;clear hK K)|(refine wT ?_ ?_;assumption)|(refine wF ?_ ?_;assumption)|(refine Wy.h ?_ ?_;kernel_rfl)|refine Wq.h ?_ ?_<;>intro h<;>try (exfalso;omega)|refine Wu.h ?_ ?_<;>intro h<;>try simp only [h]|((fail_if_success refine Wz.h ?_);first|simp (disch:=omega) only [↓LD,LA,a0A,seval,fG,fI]|(refine And.intro ?_ ?_;omega)|simp only [D.int,D.bool]))
     all_goals exact end1 rfl rfl (by kernel_rfl) .f ⟨by rw [hc];try rfl,rfl⟩
  ·rw [List.drop_of_length_le (by omega),rise] at hrs
   rw [hrs,Bool.true_and] at ha
   repeat' (with_reducible first|refine Wx.h ?_|refine Wb.h fun K hK=>?_|(refine hK _ ?_;clear hK K)|(refine wT ?_ ?_;assumption)|(refine wF ?_ ?_;assumption)|(refine Wy.h ?_ ?_;kernel_rfl)|refine Wq.h ?_ ?_<;>intro h<;>try (exfalso;omega)|refine Wu.h ?_ ?_<;>intro h<;>try simp only [h]|((fail_if_success refine Wz.h ?_);first|simp (disch:=omega) only [↓LD,LA,a0A,seval,fG,fI]|(refine And.intro ?_ ?_;omega)|simp only [D.int,D.bool]))
   exact Next.mk (i+1) (by kernel_rfl) ⟨by omega,ha⟩ (by omega)
 ·rw [List.drop_of_length_le (by omega),List.all_nil] at ha
  repeat' (with_reducible first|refine Wx.h ?_|refine Wb.h fun K hK=>?_|(refine hK _ ?_;clear hK K)|(refine wT ?_ ?_;assumption)|(refine wF ?_ ?_;assumption)|(refine Wy.h ?_ ?_;kernel_rfl)|refine Wq.h ?_ ?_<;>intro h<;>try (exfalso;omega)|refine Wu.h ?_ ?_<;>intro h<;>try simp only [h]|((fail_if_success refine Wz.h ?_);first|simp (disch:=omega) only [↓LD,LA,a0A,seval,fG]|(refine And.intro ?_ ?_;omega)|simp only [D.int,D.bool]))
  all_goals (refine end1 rfl rfl (by kernel_rfl) .f ⟨congrArg D.bool ?_,rfl⟩;rw [j0W,ha];simp [inI, *])
instance {ds:List Nd}{H:List Row}{K:D→List Row→Prop}[hf:Small ds]:Wa (a0R Tryz.prog (.fn 145 []) [.f (fG ds)] H K) (K (.f (.v (.bool (j0W ds)))) H) :=
 ⟨fun h=>a0C (k0o ds hf.h.1 hf.h.2) rfl rfl rfl h⟩
theorem b1v {l:Bs}(h:e0D l=true):l≠[]:=by
 intro e;rw [e] at h;exact absurd h (by decide)
theorem rightE_iff {e:Ev}:b0D e=true↔((1≤e.ty∧e.ty≤12)∧(1≤e.id∧e.id≤200)∧verB e.ver=true∧(0≤e.time∧e.time≤1099511627776) ∧
  (if e.ty=2∨e.ty=3∨e.ty=4 then 0≤e.node∧e.node≤7∧1≤e.n∧e.n≤5 else e.node=0)∧(if e.ty=2∨e.ty=3∨e.ty=4 then True else if e.ty=5 then 1≤e.n∧e.n≤1048576 else e.n=0) ∧
  (if e.ty=5∨e.ty=6∨e.ty=7 then e0D e.name=true else e.name=[])∧(e.data=[]∨((e.ty=3∨e.ty=7)∧e.data.length≤40))∧(if e.ty=1 then j0W e.defs=true else e.defs=[])):=by
 have ht:(1≤e.ty∧e.ty≤12)∨¬ (1≤e.ty∧e.ty≤12):=Classical.em _
 rcases ht with ht|ht
 ·rcases (show e.ty=1∨e.ty=2∨e.ty=3∨e.ty=4∨e.ty=5∨e.ty=6∨e.ty=7∨e.ty=8∨e.ty=9∨e.ty=10∨e.ty=11∨e.ty=12 by omega) with h|h|h|h|h|h|h|h|h|h|h|h
  all_goals
   simp [b0D,pOk,inI,numB,s0n,pN,b1G,b1e,z0z,y0Y,h]
   try (constructor<;>(intro hh;simp_all)<;>try omega)
  all_goals exact b1v hh.2.2.2.2.2.1
 ·constructor
  ·intro h
   simp [b0D,pOk,inI] at h
   omega
  ·intro h;exact absurd h.1 ht
set_option maxRecDepth 100000 in
theorem x0K (e:Ev)(hf:FitN e.defs)(hl:e.defs.length<1000000)(hn:e.name.length≤1000000):Con Tryz.prog 103 [evD e] [] fun r H'=>r=D.bool (b0D e)∧H'=[]:=by
  haveI:Small e.defs:=⟨⟨hf,hl⟩⟩
  refine Con.walk good s0K (by simp) ?_
  unfold k0v evD
  simp only [a0K]
  have hz:(0<(e.defs.length:Int))=(e.defs≠[]):=by apply propext;cases e.defs<;>simp
  repeat' (with_reducible first|refine Wx.h ?_|refine We.h fun K hK=>?_|refine Wd.h fun K M hK hM=>?_|(refine hK _ _ _ _ ?_;clear hK K;try clear hM M)|(refine hM ?_;clear hM M;try clear hK K)|refine Wb.h fun K hK=>?_|(refine hK _ ?_;clear hK K)|(refine wT ?_ ?_;assumption)|(refine wF ?_ ?_;assumption)|(refine Wy.h ?_ ?_;kernel_rfl)|refine Wq.h ?_ ?_<;>intro h<;>try (exfalso;omega)|refine Wu.h ?_ ?_<;>intro h<;>try simp only [h]|((fail_if_success refine Wz.h ?_);first|simp (disch:=omega) only [↓LD,LA,a0A,seval,hz]|(refine And.intro ?_ ?_;omega)|simp only [D.int,D.bool]))
  all_goals (refine end1 rfl rfl (by kernel_rfl) .f ⟨congrArg D.bool ?_,rfl⟩)
  all_goals first
    | (refine (Bool.eq_false_iff.2 fun hr=>?_).symm
       obtain ⟨a1,a2,a3,a4,a5,a6,a7,a8,a9⟩:=rightE_iff.1 hr
       first
        | omega
        | (rcases a8 with a8|a8
           · have a8':e.data.length=0:=by rw [a8];try rfl
             first|omega|(simp_all;done)|(simp_all;omega)
           · first|omega|(simp_all;done)|(simp_all;omega)))
    | (refine (rightE_iff.2 ⟨by omega,by omega,by simp_all,by omega,by simp_all;try omega,by simp_all;try omega,by simp_all,?_,by simp_all⟩).symm
       first
        | exact .inl (List.eq_nil_of_length_eq_zero (by omega))
        | exact .inr ⟨by omega,by omega⟩)
instance {ds:List Nd}{H:List Row}{K:D→List Row→Prop}[hf:Kn (Fit ds)]:Wa (a0R Tryz.prog (.fn 104 []) [.f (fG ds)] H K) (K (.f (.v (.int .i64 (a0p ds)))) H) :=
 ⟨fun h=>a0C (t0N ds hf.h) rfl rfl rfl h⟩
instance {e:Ev}{b:Bool}{H:List Row}{K:D→List Row→Prop}[hb:Vb (b0D e) b][hf:Small e.defs][hn:Kn (e.name.length≤1000000)]:Wa (a0R Tryz.prog (.fn 103 []) [.ag [.f (.v (.int .i64 e.id)),.f (.v (.int .i64 e.ver)),.f (.v (.int .i64 e.time)),.f (.v (.int .i64 e.ty)),.f (.v (.int .i64 e.node)),.f (.v (.int .i64 e.n)),.f (.v (.string (BB e.name))),.f (fY e.data),.f (fG e.defs)]] H K)
  (K (.f (.v (.bool b))) H):=⟨fun h=>by rw [←hb.h] at h;exact a0C (x0K e hf.h.1 hf.h.2 hn.h) rfl rfl rfl h⟩
theorem h0M (s:S12)(e:Ev):(a0g s e).2.nodes=s.nodes:=by
 unfold a0g armL c0R
 split
 ·split
  ·rfl
  ·split<;>rfl
 ·split
  ·rfl
  ·split<;>rfl
theorem w0V {a b:Nat}{s:S12}{H:List Row}(h1:H[a]?=some (rN s.nodes))(h2:H[b]?=some (rT s.tms)):Vw H (.ag (stKT a b s)) (stD s) :=
 .ags (.cons .f (.cons .f (.cons .f (.cons .f (.cons .f (.cons .f (.cons (.sl h1 (fun e=>by rw [List.eq_nil_of_length_eq_zero e];try rfl)) (.cons (.sl h2 (fun e=>by rw [List.eq_nil_of_length_eq_zero e];try rfl)) (.cons .f .nil)))))))))
def stKS (a b:Nat)(s:S12):List D:=[D.int s.id,D.int s.ver,D.int s.time,D.int s.closed,D.bool s.cancel,.f (fG s.defs),.sl a 0 s.nodes.length,.f (fTm s.tms),.sl b 0 s.sgs.length]
theorem u0W {a b:Nat}{s:S12}{H:List Row}(h1:H[a]?=some (rN s.nodes))(h2:H[b]?=some (rS s.sgs)):Vw H (.ag (stKS a b s)) (stD s) :=
 .ags (.cons .f (.cons .f (.cons .f (.cons .f (.cons .f (.cons .f (.cons (.sl h1 (fun e=>by rw [List.eq_nil_of_length_eq_zero e];try rfl)) (.cons .f (.cons (.sl h2 (fun e=>by rw [List.eq_nil_of_length_eq_zero e];try rfl)) .nil)))))))))
theorem d1s {a b:Prop}[Decidable a][Decidable b](h:a↔b):¬ decide a≠decide b:=by
 simp only [ne_eq,Decidable.not_not];exact decide_eq_decide.2 h
def a0c (s:S12)(e:Ev):Int × S12 :=
 if e.ty=1 then (if a0p e.defs≠0 then (1,s) else (0,{ s with defs:=e.defs,nodes:=List.replicate e.defs.length nd0 }))
 else if e.ty=2∨e.ty=3∨e.ty=4 then b0X s e
 else if e.ty=5∨e.ty=6 then a0g s e
 else if e.ty=7 then a0b s e else if e.ty=8 then a0m s
 else if a0n s e.ty=true then (0,{ s with closed:=e.ty }) else (4,s)
def a0I (s:S12)(e:Ev):Int × S12 :=
 if b0D e=false∨e.id≠s.id+1∨e.ver<s.ver∨e.time<s.time then (1,s0)
 else if s.closed≠0 then (12,s0)
 else if decide (s.id=0)≠decide (e.ty=1) then (4,s0)
 else if (a0c s e).1≠0 then ((a0c s e).1,s0)
 else (0,{ (a0c s e).2 with id:=e.id,ver:=e.ver,time:=e.time })
set_option maxRecDepth 100000 in
theorem s0P (s:S12)(e:Ev)(hs:FitA s)(hp:Pos s.defs)(hnd:s.nodes.length=s.defs.length)(hd:e.data.length≤1000000)(hnm:e.name.length≤1000000)(hf:Fit e.defs)(hi:0≤s.id∧s.id<1000000000)(hz0:s.nodes.length=0↔s.id=0) :
  Con Tryz.prog 66 [stD s,evD e] [] fun r H'=>r = .tp [stD (a0I s e).2,D.int (a0I s e).1]∧H'=[]:=by
 obtain ⟨id,ver,time,closed,cancel,defs,nodes,tms,sgs⟩:=s
 suffices hh:∀ Q:D→List Row→Prop,(∀ r H',r = .tp [stD (a0I ⟨id,ver,time,closed,cancel,defs,nodes,tms,sgs⟩ e).2,D.int (a0I ⟨id,ver,time,closed,cancel,defs,nodes,tms,sgs⟩ e).1]→H'=[]→Q r H')→Con Tryz.prog 66 [stD ⟨id,ver,time,closed,cancel,defs,nodes,tms,sgs⟩,evD e] [] Q from hh _ fun _ _ h1 h2=>⟨h1,h2⟩
 intro Q hQ
 haveI:Small e.defs:=⟨⟨fun d hd=>hf.2 d hd,by have:=hf.1;omega⟩⟩
 haveI:Kn (e.name.length≤1000000):=⟨hnm⟩
 haveI:Kn (Fit e.defs):=⟨hf⟩
 obtain ⟨hi1,hi2⟩:=hi
 have hnl:=hs.fit.nodes
 have htl:=hs.fit.tms
 have hsl:=hs.fit.sgs
 dsimp only at hi1 hi2 hp hnd hnl htl hsl hz0
 refine Con.walk good p0s (by simp) ?_
 unfold i0i
 simp only [a0K,stD,evD]
 cases hre:b0D e
 ·haveI:Vb (b0D e) _:=⟨hre⟩
  have hb:a0I ⟨id,ver,time,closed,cancel,defs,nodes,tms,sgs⟩ e=(1,s0):=by unfold a0I;rw [if_pos (.inl hre)]
  rw [hb] at hQ
  repeat' (with_reducible first|refine Wx.h ?_|refine We.h fun K hK=>?_|refine Wd.h fun K M hK hM=>?_|(refine hK _ _ _ _ ?_;clear hK K;try clear hM M)|(refine hM ?_;clear hM M;try clear hK K)|refine Wb.h fun K hK=>?_|(refine hK _ ?_;clear hK K)|(refine wT ?_ ?_;assumption)|(refine wF ?_ ?_;assumption)|(refine Wy.h ?_ ?_;kernel_rfl)|refine Wq.h ?_ ?_<;>intro h<;>try (exfalso;omega)|refine Wu.h ?_ ?_<;>intro h<;>try simp only [h]|((fail_if_success refine Wz.h ?_);first|simp (disch:=omega) only [↓LD,LA,a0A,seval,LSt]|(refine And.intro ?_ ?_;omega)|simp only [D.int,D.bool]))
  exact RetS.still (ds:=[.ag [jI,jI,jI,jI,jF,jN,jN,jN,jN],D.int 1]) (by kernel_rfl) (by kernel_rfl) (.tps (.cons (.ags (.cons .f (.cons .f (.cons .f (.cons .f (.cons .f (.cons .nil (.cons .nil (.cons .nil (.cons .nil .nil)))))))))) (.cons .f .nil))) (hQ _ _ rfl rfl)
 haveI:Vb (b0D e) _:=⟨hre⟩
 by_cases h1:e.id≠id+1∨e.ver<ver∨e.time<time
 ·have hb:a0I ⟨id,ver,time,closed,cancel,defs,nodes,tms,sgs⟩ e=(1,s0):=by unfold a0I;rw [if_pos (.inr h1)]
  rw [hb] at hQ
  repeat' (with_reducible first|refine Wx.h ?_|refine We.h fun K hK=>?_|refine Wd.h fun K M hK hM=>?_|(refine hK _ _ _ _ ?_;clear hK K;try clear hM M)|(refine hM ?_;clear hM M;try clear hK K)|refine Wb.h fun K hK=>?_|(refine hK _ ?_;clear hK K)|(refine wT ?_ ?_;assumption)|(refine wF ?_ ?_;assumption)|(refine Wy.h ?_ ?_;kernel_rfl)|refine Wq.h ?_ ?_<;>intro h<;>try (exfalso;omega)|refine Wu.h ?_ ?_<;>intro h<;>try simp only [h]|((fail_if_success refine Wz.h ?_);first|simp (disch:=omega) only [↓LD,LA,a0A,seval,LSt]|(refine And.intro ?_ ?_;omega)|simp only [D.int,D.bool]))
  all_goals exact RetS.still (ds:=[.ag [jI,jI,jI,jI,jF,jN,jN,jN,jN],D.int 1]) (by kernel_rfl) (by kernel_rfl) (.tps (.cons (.ags (.cons .f (.cons .f (.cons .f (.cons .f (.cons .f (.cons .nil (.cons .nil (.cons .nil (.cons .nil .nil)))))))))) (.cons .f .nil))) (hQ _ _ rfl rfl)
 have hlo:¬ (b0D e=false∨e.id≠id+1∨e.ver<ver∨e.time<time):=by rw [hre];simp only [Bool.true_eq_false,false_or];exact h1
 by_cases hc:closed=0
 rotate_left
 ·have hb:a0I ⟨id,ver,time,closed,cancel,defs,nodes,tms,sgs⟩ e=(12,s0):=by unfold a0I;rw [if_neg hlo,if_pos hc]
  rw [hb] at hQ
  repeat' (with_reducible first|refine Wx.h ?_|refine We.h fun K hK=>?_|refine Wd.h fun K M hK hM=>?_|(refine hK _ _ _ _ ?_;clear hK K;try clear hM M)|(refine hM ?_;clear hM M;try clear hK K)|refine Wb.h fun K hK=>?_|(refine hK _ ?_;clear hK K)|(refine wT ?_ ?_;assumption)|(refine wF ?_ ?_;assumption)|(refine Wy.h ?_ ?_;kernel_rfl)|refine Wq.h ?_ ?_<;>intro h<;>try (exfalso;omega)|refine Wu.h ?_ ?_<;>intro h<;>try simp only [h]|((fail_if_success refine Wz.h ?_);first|simp (disch:=omega) only [↓LD,LA,a0A,seval,LSt]|(refine And.intro ?_ ?_;omega)|simp only [D.int,D.bool]))
  all_goals exact RetS.still (ds:=[.ag [jI,jI,jI,jI,jF,jN,jN,jN,jN],D.int 12]) (by kernel_rfl) (by kernel_rfl) (.tps (.cons (.ags (.cons .f (.cons .f (.cons .f (.cons .f (.cons .f (.cons .nil (.cons .nil (.cons .nil (.cons .nil .nil)))))))))) (.cons .f .nil))) (hQ _ _ rfl rfl)
 have hc':¬ (closed≠0):=fun h=>h hc
 by_cases hid:id=0
 ·have hz:nodes.length=0:=hz0.2 hid
  by_cases ht:e.ty=1
  ·have hT:a0I ⟨id,ver,time,closed,cancel,defs,nodes,tms,sgs⟩ e=if a0p e.defs≠0 then (1,s0) else (0,⟨e.id,e.ver,e.time,closed,cancel,e.defs,List.replicate e.defs.length nd0,tms,sgs⟩):=by
    unfold a0I
    rw [if_neg hlo,if_neg hc',if_neg (d1s (iff_of_true hid ht))]
    unfold a0c
    rw [if_pos ht]
    by_cases hk:a0p e.defs=0
    ·rw [if_neg (fun h:a0p e.defs≠0=>h hk),if_neg (by simp),if_neg (fun h:a0p e.defs≠0=>h hk)]
    ·rw [if_pos hk,if_pos (by simp),if_pos hk]
   rw [hT] at hQ
   clear hT
   by_cases hk:a0p e.defs=0
   ·rw [if_neg (fun h=>h hk)] at hQ
    have hf1:=hf.1
    repeat' (with_reducible first|refine Wa.h ?_|refine Ws.h ?_|refine We.h fun K hK=>?_|refine Wd.h fun K M hK hM=>?_|(refine hK _ _ _ _ ?_;clear hK K;try clear hM M)|(refine hM ?_;clear hM M;try clear hK K)|refine Wb.h fun K hK=>?_|(refine hK _ ?_;clear hK K)|(refine wT ?_ ?_;assumption)|(refine wF ?_ ?_;assumption)|(refine Wy.h ?_ ?_;kernel_rfl)|refine Wq.h ?_ ?_<;>intro h<;>try (exfalso;omega)|refine Wu.h ?_ ?_<;>intro h<;>try simp only [h]|((fail_if_success refine Wz.h ?_);first|simp (disch:=omega) only [↓LD,LA,a0A,seval,LSt,a0h]|(refine And.intro ?_ ?_;omega)|simp only [D.int,D.bool]))
    refine HS.view (View.wkd 5 ((List.replicate e.defs.length nd0).flatMap Nn.cs) rfl (by rw [List.length_map,List.length_range,a0h,List.length_replicate]) (f1P _)) ?_
    repeat' (with_reducible first|refine Wx.h ?_|refine Wb.h fun K hK=>?_|(refine hK _ ?_;clear hK K)|(refine wT ?_ ?_;assumption)|(refine wF ?_ ?_;assumption)|(refine Wy.h ?_ ?_;kernel_rfl)|refine Wq.h ?_ ?_<;>intro h<;>try (exfalso;omega)|refine Wu.h ?_ ?_<;>intro h<;>try simp only [h]|((fail_if_success refine Wz.h ?_);first|simp (disch:=omega) only [↓LD,LA,a0A,seval]|(refine And.intro ?_ ?_;omega)|simp only [D.int,D.bool]))
    have hrl:(List.replicate e.defs.length nd0).length=e.defs.length:=by simp
    generalize List.replicate e.defs.length nd0=ns at hQ hrl ⊢
    refine RetS.still (ds:=[.ag (stK 5 ⟨e.id,e.ver,e.time,closed,cancel,e.defs,ns,tms,sgs⟩),D.int 0]) ?_ (by kernel_rfl) (.tps (.cons (b0p rfl) (.cons .f .nil))) (hQ _ _ rfl rfl)
    rw [stK,hrl]
    kernel_rfl
   ·rw [if_pos hk] at hQ
    repeat' (with_reducible first|refine Wx.h ?_|refine We.h fun K hK=>?_|refine Wd.h fun K M hK hM=>?_|(refine hK _ _ _ _ ?_;clear hK K;try clear hM M)|(refine hM ?_;clear hM M;try clear hK K)|refine Wb.h fun K hK=>?_|(refine hK _ ?_;clear hK K)|(refine wT ?_ ?_;assumption)|(refine wF ?_ ?_;assumption)|(refine Wy.h ?_ ?_;kernel_rfl)|refine Wq.h ?_ ?_<;>intro h<;>try (exfalso;omega)|refine Wu.h ?_ ?_<;>intro h<;>try simp only [h]|((fail_if_success refine Wz.h ?_);first|simp (disch:=omega) only [↓LD,LA,a0A,seval,LSt,a0h]|(refine And.intro ?_ ?_;omega)|simp only [D.int,D.bool]))
    exact RetS.still (ds:=[.ag [jI,jI,jI,jI,jF,jN,jN,jN,jN],D.int 1]) (by kernel_rfl) (by kernel_rfl) (.tps (.cons (.ags (.cons .f (.cons .f (.cons .f (.cons .f (.cons .f (.cons .nil (.cons .nil (.cons .nil (.cons .nil .nil)))))))))) (.cons .f .nil))) (hQ _ _ rfl rfl)
  ·have hb:a0I ⟨id,ver,time,closed,cancel,defs,nodes,tms,sgs⟩ e=(4,s0):=by
    unfold a0I;rw [if_neg hlo,if_neg hc',if_pos (by simp [hid,ht])]
   rw [hb] at hQ
   repeat' (with_reducible first|refine Wx.h ?_|refine We.h fun K hK=>?_|refine Wd.h fun K M hK hM=>?_|(refine hK _ _ _ _ ?_;clear hK K;try clear hM M)|(refine hM ?_;clear hM M;try clear hK K)|refine Wb.h fun K hK=>?_|(refine hK _ ?_;clear hK K)|(refine wT ?_ ?_;assumption)|(refine wF ?_ ?_;assumption)|(refine Wy.h ?_ ?_;kernel_rfl)|refine Wq.h ?_ ?_<;>intro h<;>try (exfalso;omega)|refine Wu.h ?_ ?_<;>intro h<;>try simp only [h]|((fail_if_success refine Wz.h ?_);first|simp (disch:=omega) only [↓LD,LA,a0A,seval,LSt,a0h]|(refine And.intro ?_ ?_;omega)|simp only [D.int,D.bool]))
   exact RetS.still (ds:=[.ag [jI,jI,jI,jI,jF,jN,jN,jN,jN],D.int 4]) (by kernel_rfl) (by kernel_rfl) (.tps (.cons (.ags (.cons .f (.cons .f (.cons .f (.cons .f (.cons .f (.cons .nil (.cons .nil (.cons .nil (.cons .nil .nil)))))))))) (.cons .f .nil))) (hQ _ _ rfl rfl)
 have hz:¬ nodes.length=0:=fun h=>hid (hz0.1 h)
 by_cases ht:e.ty=1
 ·have hb:a0I ⟨id,ver,time,closed,cancel,defs,nodes,tms,sgs⟩ e=(4,s0):=by
   unfold a0I;rw [if_neg hlo,if_neg hc',if_pos (by simp [hid,ht])]
  rw [hb] at hQ
  repeat' (with_reducible first|refine Wx.h ?_|refine We.h fun K hK=>?_|refine Wd.h fun K M hK hM=>?_|(refine hK _ _ _ _ ?_;clear hK K;try clear hM M)|(refine hM ?_;clear hM M;try clear hK K)|refine Wb.h fun K hK=>?_|(refine hK _ ?_;clear hK K)|(refine wT ?_ ?_;assumption)|(refine wF ?_ ?_;assumption)|(refine Wy.h ?_ ?_;kernel_rfl)|refine Wq.h ?_ ?_<;>intro h<;>try (exfalso;omega)|refine Wu.h ?_ ?_<;>intro h<;>try simp only [h]|((fail_if_success refine Wz.h ?_);first|simp (disch:=omega) only [↓LD,LA,a0A,seval,LSt,a0h]|(refine And.intro ?_ ?_;omega)|simp only [D.int,D.bool]))
  exact RetS.still (ds:=[.ag [jI,jI,jI,jI,jF,jN,jN,jN,jN],D.int 4]) (by kernel_rfl) (by kernel_rfl) (.tps (.cons (.ags (.cons .f (.cons .f (.cons .f (.cons .f (.cons .f (.cons .nil (.cons .nil (.cons .nil (.cons .nil .nil)))))))))) (.cons .f .nil))) (hQ _ _ rfl rfl)
 have hT:a0I ⟨id,ver,time,closed,cancel,defs,nodes,tms,sgs⟩ e=if (a0c ⟨id,ver,time,closed,cancel,defs,nodes,tms,sgs⟩ e).1≠0 then ((a0c ⟨id,ver,time,closed,cancel,defs,nodes,tms,sgs⟩ e).1,s0) else (0,{ (a0c ⟨id,ver,time,closed,cancel,defs,nodes,tms,sgs⟩ e).2 with id:=e.id,ver:=e.ver,time:=e.time }):=by
  unfold a0I
  rw [if_neg hlo,if_neg hc',if_neg (d1s (iff_of_false hid ht))]
 rw [hT] at hQ
 clear hT
 repeat' (with_reducible first|refine Wx.h ?_|refine We.h fun K hK=>?_|refine Wd.h fun K M hK hM=>?_|(refine hK _ _ _ _ ?_;clear hK K;try clear hM M)|(refine hM ?_;clear hM M;try clear hK K)|refine Wb.h fun K hK=>?_|(refine hK _ ?_;clear hK K)|(refine wT ?_ ?_;assumption)|(refine wF ?_ ?_;assumption)|(refine Wy.h ?_ ?_;kernel_rfl)|refine Wq.h ?_ ?_<;>intro h<;>try (exfalso;omega)|refine Wu.h ?_ ?_<;>intro h<;>try simp only [h]|((fail_if_success refine Wz.h ?_);first|simp (disch:=omega) only [↓LD,LA,a0A,seval,LSt,a0h,s0O]|(refine And.intro ?_ ?_;omega)|simp only [D.int,D.bool]))
 ·have hb:a0c ⟨id,ver,time,closed,cancel,defs,nodes,tms,sgs⟩ e=b0X ⟨id,ver,time,closed,cancel,defs,nodes,tms,sgs⟩ e:=by unfold a0c;rw [if_neg ht,if_pos (show e.ty=2∨e.ty=3∨e.ty=4 by omega)]
  rw [hb] at hQ
  refine a0F (c0c ⟨id,ver,time,closed,cancel,defs,nodes,tms,sgs⟩ e ⟨(fitE hre hd hf).time,hs.le,hs.tr⟩ (fitE hre hd hf).node hs.defs hp hnl hnd) [0,5] (by kernel_rfl) rfl rfl ?_
  rintro _ _ ⟨rfl,rfl⟩
  generalize b0X ⟨id,ver,time,closed,cancel,defs,nodes,tms,sgs⟩ e=p at hQ ⊢
  obtain ⟨v,s'⟩:=p
  dsimp only at hQ ⊢
  simp (disch:=omega) only [↓LD,LA,a0A,seval,ren,List.getElem?_nil,stK,rN]
  by_cases hv:v=0
  ·subst hv
   repeat' (with_reducible first|refine Wx.h ?_|refine We.h fun K hK=>?_|refine Wd.h fun K M hK hM=>?_|(refine hK _ _ _ _ ?_;clear hK K;try clear hM M)|(refine hM ?_;clear hM M;try clear hK K)|refine Wb.h fun K hK=>?_|(refine hK _ ?_;clear hK K)|(refine wT ?_ ?_;assumption)|(refine wF ?_ ?_;assumption)|(refine Wy.h ?_ ?_;kernel_rfl)|refine Wq.h ?_ ?_<;>intro h<;>try (exfalso;omega)|refine Wu.h ?_ ?_<;>intro h<;>try simp only [h]|((fail_if_success refine Wz.h ?_);first|simp (disch:=omega) only [↓LD,LA,a0A,seval]|(refine And.intro ?_ ?_;omega)|simp only [D.int,D.bool]))
   rw [if_neg (by simp)] at hQ
   exact RetS.still (ds:=[.ag (stK 5 ⟨e.id,e.ver,e.time,s'.closed,s'.cancel,s'.defs,s'.nodes,s'.tms,s'.sgs⟩),D.int 0]) (by kernel_rfl) (by kernel_rfl) (.tps (.cons (b0p rfl) (.cons .f .nil))) (hQ _ _ rfl rfl)
  ·rw [if_pos hv] at hQ
   repeat' (with_reducible first|refine Wx.h ?_|refine We.h fun K hK=>?_|refine Wd.h fun K M hK hM=>?_|(refine hK _ _ _ _ ?_;clear hK K;try clear hM M)|(refine hM ?_;clear hM M;try clear hK K)|refine Wb.h fun K hK=>?_|(refine hK _ ?_;clear hK K)|(refine wT ?_ ?_;assumption)|(refine wF ?_ ?_;assumption)|(refine Wy.h ?_ ?_;kernel_rfl)|refine Wq.h ?_ ?_<;>intro h<;>try (exfalso;omega)|refine Wu.h ?_ ?_<;>intro h<;>try simp only [h]|((fail_if_success refine Wz.h ?_);first|simp (disch:=omega) only [↓LD,LA,a0A,seval]|(refine And.intro ?_ ?_;omega)|simp only [D.int,D.bool]))
   exact RetS.still (ds:=[.ag [jI,jI,jI,jI,jF,jN,jN,jN,jN],D.int v]) (by kernel_rfl) (by kernel_rfl) (.tps (.cons (.ags (.cons .f (.cons .f (.cons .f (.cons .f (.cons .f (.cons .nil (.cons .nil (.cons .nil (.cons .nil .nil)))))))))) (.cons .f .nil))) (hQ _ _ rfl rfl)
 ·have hb:a0c ⟨id,ver,time,closed,cancel,defs,nodes,tms,sgs⟩ e=b0X ⟨id,ver,time,closed,cancel,defs,nodes,tms,sgs⟩ e:=by unfold a0c;rw [if_neg ht,if_pos (show e.ty=2∨e.ty=3∨e.ty=4 by omega)]
  rw [hb] at hQ
  refine a0F (c0c ⟨id,ver,time,closed,cancel,defs,nodes,tms,sgs⟩ e ⟨(fitE hre hd hf).time,hs.le,hs.tr⟩ (fitE hre hd hf).node hs.defs hp hnl hnd) [0,5] (by kernel_rfl) rfl rfl ?_
  rintro _ _ ⟨rfl,rfl⟩
  generalize b0X ⟨id,ver,time,closed,cancel,defs,nodes,tms,sgs⟩ e=p at hQ ⊢
  obtain ⟨v,s'⟩:=p
  dsimp only at hQ ⊢
  simp (disch:=omega) only [↓LD,LA,a0A,seval,ren,List.getElem?_nil,stK,rN]
  by_cases hv:v=0
  ·subst hv
   repeat' (with_reducible first|refine Wx.h ?_|refine We.h fun K hK=>?_|refine Wd.h fun K M hK hM=>?_|(refine hK _ _ _ _ ?_;clear hK K;try clear hM M)|(refine hM ?_;clear hM M;try clear hK K)|refine Wb.h fun K hK=>?_|(refine hK _ ?_;clear hK K)|(refine wT ?_ ?_;assumption)|(refine wF ?_ ?_;assumption)|(refine Wy.h ?_ ?_;kernel_rfl)|refine Wq.h ?_ ?_<;>intro h<;>try (exfalso;omega)|refine Wu.h ?_ ?_<;>intro h<;>try simp only [h]|((fail_if_success refine Wz.h ?_);first|simp (disch:=omega) only [↓LD,LA,a0A,seval]|(refine And.intro ?_ ?_;omega)|simp only [D.int,D.bool]))
   rw [if_neg (by simp)] at hQ
   exact RetS.still (ds:=[.ag (stK 5 ⟨e.id,e.ver,e.time,s'.closed,s'.cancel,s'.defs,s'.nodes,s'.tms,s'.sgs⟩),D.int 0]) (by kernel_rfl) (by kernel_rfl) (.tps (.cons (b0p rfl) (.cons .f .nil))) (hQ _ _ rfl rfl)
  ·rw [if_pos hv] at hQ
   repeat' (with_reducible first|refine Wx.h ?_|refine We.h fun K hK=>?_|refine Wd.h fun K M hK hM=>?_|(refine hK _ _ _ _ ?_;clear hK K;try clear hM M)|(refine hM ?_;clear hM M;try clear hK K)|refine Wb.h fun K hK=>?_|(refine hK _ ?_;clear hK K)|(refine wT ?_ ?_;assumption)|(refine wF ?_ ?_;assumption)|(refine Wy.h ?_ ?_;kernel_rfl)|refine Wq.h ?_ ?_<;>intro h<;>try (exfalso;omega)|refine Wu.h ?_ ?_<;>intro h<;>try simp only [h]|((fail_if_success refine Wz.h ?_);first|simp (disch:=omega) only [↓LD,LA,a0A,seval]|(refine And.intro ?_ ?_;omega)|simp only [D.int,D.bool]))
   exact RetS.still (ds:=[.ag [jI,jI,jI,jI,jF,jN,jN,jN,jN],D.int v]) (by kernel_rfl) (by kernel_rfl) (.tps (.cons (.ags (.cons .f (.cons .f (.cons .f (.cons .f (.cons .f (.cons .nil (.cons .nil (.cons .nil (.cons .nil .nil)))))))))) (.cons .f .nil))) (hQ _ _ rfl rfl)
 ·have hb:a0c ⟨id,ver,time,closed,cancel,defs,nodes,tms,sgs⟩ e=b0X ⟨id,ver,time,closed,cancel,defs,nodes,tms,sgs⟩ e:=by unfold a0c;rw [if_neg ht,if_pos (show e.ty=2∨e.ty=3∨e.ty=4 by omega)]
  rw [hb] at hQ
  refine a0F (c0c ⟨id,ver,time,closed,cancel,defs,nodes,tms,sgs⟩ e ⟨(fitE hre hd hf).time,hs.le,hs.tr⟩ (fitE hre hd hf).node hs.defs hp hnl hnd) [0,5] (by kernel_rfl) rfl rfl ?_
  rintro _ _ ⟨rfl,rfl⟩
  generalize b0X ⟨id,ver,time,closed,cancel,defs,nodes,tms,sgs⟩ e=p at hQ ⊢
  obtain ⟨v,s'⟩:=p
  dsimp only at hQ ⊢
  simp (disch:=omega) only [↓LD,LA,a0A,seval,ren,List.getElem?_nil,stK,rN]
  by_cases hv:v=0
  ·subst hv
   repeat' (with_reducible first|refine Wx.h ?_|refine We.h fun K hK=>?_|refine Wd.h fun K M hK hM=>?_|(refine hK _ _ _ _ ?_;clear hK K;try clear hM M)|(refine hM ?_;clear hM M;try clear hK K)|refine Wb.h fun K hK=>?_|(refine hK _ ?_;clear hK K)|(refine wT ?_ ?_;assumption)|(refine wF ?_ ?_;assumption)|(refine Wy.h ?_ ?_;kernel_rfl)|refine Wq.h ?_ ?_<;>intro h<;>try (exfalso;omega)|refine Wu.h ?_ ?_<;>intro h<;>try simp only [h]|((fail_if_success refine Wz.h ?_);first|simp (disch:=omega) only [↓LD,LA,a0A,seval]|(refine And.intro ?_ ?_;omega)|simp only [D.int,D.bool]))
   rw [if_neg (by simp)] at hQ
   exact RetS.still (ds:=[.ag (stK 5 ⟨e.id,e.ver,e.time,s'.closed,s'.cancel,s'.defs,s'.nodes,s'.tms,s'.sgs⟩),D.int 0]) (by kernel_rfl) (by kernel_rfl) (.tps (.cons (b0p rfl) (.cons .f .nil))) (hQ _ _ rfl rfl)
  ·rw [if_pos hv] at hQ
   repeat' (with_reducible first|refine Wx.h ?_|refine We.h fun K hK=>?_|refine Wd.h fun K M hK hM=>?_|(refine hK _ _ _ _ ?_;clear hK K;try clear hM M)|(refine hM ?_;clear hM M;try clear hK K)|refine Wb.h fun K hK=>?_|(refine hK _ ?_;clear hK K)|(refine wT ?_ ?_;assumption)|(refine wF ?_ ?_;assumption)|(refine Wy.h ?_ ?_;kernel_rfl)|refine Wq.h ?_ ?_<;>intro h<;>try (exfalso;omega)|refine Wu.h ?_ ?_<;>intro h<;>try simp only [h]|((fail_if_success refine Wz.h ?_);first|simp (disch:=omega) only [↓LD,LA,a0A,seval]|(refine And.intro ?_ ?_;omega)|simp only [D.int,D.bool]))
   exact RetS.still (ds:=[.ag [jI,jI,jI,jI,jF,jN,jN,jN,jN],D.int v]) (by kernel_rfl) (by kernel_rfl) (.tps (.cons (.ags (.cons .f (.cons .f (.cons .f (.cons .f (.cons .f (.cons .nil (.cons .nil (.cons .nil (.cons .nil .nil)))))))))) (.cons .f .nil))) (hQ _ _ rfl rfl)
 ·have hb:a0c ⟨id,ver,time,closed,cancel,defs,nodes,tms,sgs⟩ e=a0g ⟨id,ver,time,closed,cancel,defs,nodes,tms,sgs⟩ e:=by unfold a0c;rw [if_neg ht,if_neg (show ¬ (e.ty=2∨e.ty=3∨e.ty=4) by omega),if_pos (show e.ty=5∨e.ty=6 by omega)]
  rw [hb] at hQ
  have hnn:=h0M ⟨id,ver,time,closed,cancel,defs,nodes,tms,sgs⟩ e
  refine a0F (d0h ⟨id,ver,time,closed,cancel,defs,nodes,tms,sgs⟩ e htl (fitE hre hd hf).time (fitE hre hd hf).n) [0,5] (by kernel_rfl) rfl rfl ?_
  generalize a0g ⟨id,ver,time,closed,cancel,defs,nodes,tms,sgs⟩ e=p at hQ hnn ⊢
  obtain ⟨v,s'⟩:=p
  dsimp only at hQ hnn ⊢
  rintro _ _ ⟨rfl,(⟨hv,rfl⟩|⟨hv,rfl⟩)⟩
  ·rw [if_pos hv] at hQ
   simp (disch:=omega) only [↓LD,LA,a0A,seval,ren,List.getElem?_nil,stK,rN]
   repeat' (with_reducible first|refine Wx.h ?_|refine We.h fun K hK=>?_|refine Wd.h fun K M hK hM=>?_|(refine hK _ _ _ _ ?_;clear hK K;try clear hM M)|(refine hM ?_;clear hM M;try clear hK K)|refine Wb.h fun K hK=>?_|(refine hK _ ?_;clear hK K)|(refine wT ?_ ?_;assumption)|(refine wF ?_ ?_;assumption)|(refine Wy.h ?_ ?_;kernel_rfl)|refine Wq.h ?_ ?_<;>intro h<;>try (exfalso;omega)|refine Wu.h ?_ ?_<;>intro h<;>try simp only [h]|((fail_if_success refine Wz.h ?_);first|simp (disch:=omega) only [↓LD,LA,a0A,seval]|(refine And.intro ?_ ?_;omega)|simp only [D.int,D.bool]))
   exact RetS.still (ds:=[.ag [jI,jI,jI,jI,jF,jN,jN,jN,jN],D.int v]) (by kernel_rfl) (by kernel_rfl) (.tps (.cons (.ags (.cons .f (.cons .f (.cons .f (.cons .f (.cons .f (.cons .nil (.cons .nil (.cons .nil (.cons .nil .nil)))))))))) (.cons .f .nil))) (hQ _ _ rfl rfl)
  ·subst hv
   rw [if_neg (by simp)] at hQ
   simp (disch:=omega) only [↓LD,LA,a0A,seval,ren,List.getElem?_nil,stKT,rN,rT]
   repeat' (with_reducible first|refine Wx.h ?_|refine We.h fun K hK=>?_|refine Wd.h fun K M hK hM=>?_|(refine hK _ _ _ _ ?_;clear hK K;try clear hM M)|(refine hM ?_;clear hM M;try clear hK K)|refine Wb.h fun K hK=>?_|(refine hK _ ?_;clear hK K)|(refine wT ?_ ?_;assumption)|(refine wF ?_ ?_;assumption)|(refine Wy.h ?_ ?_;kernel_rfl)|refine Wq.h ?_ ?_<;>intro h<;>try (exfalso;omega)|refine Wu.h ?_ ?_<;>intro h<;>try simp only [h]|((fail_if_success refine Wz.h ?_);first|simp (disch:=omega) only [↓LD,LA,a0A,seval]|(refine And.intro ?_ ?_;omega)|simp only [D.int,D.bool]))
   exact RetS.still (ds:=[.ag (stKT 5 6 ⟨e.id,e.ver,e.time,s'.closed,s'.cancel,s'.defs,s'.nodes,s'.tms,s'.sgs⟩),D.int 0]) (by kernel_rfl) (by kernel_rfl) (.tps (.cons (w0V (by dsimp only;rw [hnn];try rfl) rfl) (.cons .f .nil))) (hQ _ _ rfl rfl)
 ·have hb:a0c ⟨id,ver,time,closed,cancel,defs,nodes,tms,sgs⟩ e=a0g ⟨id,ver,time,closed,cancel,defs,nodes,tms,sgs⟩ e:=by unfold a0c;rw [if_neg ht,if_neg (show ¬ (e.ty=2∨e.ty=3∨e.ty=4) by omega),if_pos (show e.ty=5∨e.ty=6 by omega)]
  rw [hb] at hQ
  have hnn:=h0M ⟨id,ver,time,closed,cancel,defs,nodes,tms,sgs⟩ e
  refine a0F (d0h ⟨id,ver,time,closed,cancel,defs,nodes,tms,sgs⟩ e htl (fitE hre hd hf).time (fitE hre hd hf).n) [0,5] (by kernel_rfl) rfl rfl ?_
  generalize a0g ⟨id,ver,time,closed,cancel,defs,nodes,tms,sgs⟩ e=p at hQ hnn ⊢
  obtain ⟨v,s'⟩:=p
  dsimp only at hQ hnn ⊢
  rintro _ _ ⟨rfl,(⟨hv,rfl⟩|⟨hv,rfl⟩)⟩
  ·rw [if_pos hv] at hQ
   simp (disch:=omega) only [↓LD,LA,a0A,seval,ren,List.getElem?_nil,stK,rN]
   repeat' (with_reducible first|refine Wx.h ?_|refine We.h fun K hK=>?_|refine Wd.h fun K M hK hM=>?_|(refine hK _ _ _ _ ?_;clear hK K;try clear hM M)|(refine hM ?_;clear hM M;try clear hK K)|refine Wb.h fun K hK=>?_|(refine hK _ ?_;clear hK K)|(refine wT ?_ ?_;assumption)|(refine wF ?_ ?_;assumption)|(refine Wy.h ?_ ?_;kernel_rfl)|refine Wq.h ?_ ?_<;>intro h<;>try (exfalso;omega)|refine Wu.h ?_ ?_<;>intro h<;>try simp only [h]|((fail_if_success refine Wz.h ?_);first|simp (disch:=omega) only [↓LD,LA,a0A,seval]|(refine And.intro ?_ ?_;omega)|simp only [D.int,D.bool]))
   exact RetS.still (ds:=[.ag [jI,jI,jI,jI,jF,jN,jN,jN,jN],D.int v]) (by kernel_rfl) (by kernel_rfl) (.tps (.cons (.ags (.cons .f (.cons .f (.cons .f (.cons .f (.cons .f (.cons .nil (.cons .nil (.cons .nil (.cons .nil .nil)))))))))) (.cons .f .nil))) (hQ _ _ rfl rfl)
  ·subst hv
   rw [if_neg (by simp)] at hQ
   simp (disch:=omega) only [↓LD,LA,a0A,seval,ren,List.getElem?_nil,stKT,rN,rT]
   repeat' (with_reducible first|refine Wx.h ?_|refine We.h fun K hK=>?_|refine Wd.h fun K M hK hM=>?_|(refine hK _ _ _ _ ?_;clear hK K;try clear hM M)|(refine hM ?_;clear hM M;try clear hK K)|refine Wb.h fun K hK=>?_|(refine hK _ ?_;clear hK K)|(refine wT ?_ ?_;assumption)|(refine wF ?_ ?_;assumption)|(refine Wy.h ?_ ?_;kernel_rfl)|refine Wq.h ?_ ?_<;>intro h<;>try (exfalso;omega)|refine Wu.h ?_ ?_<;>intro h<;>try simp only [h]|((fail_if_success refine Wz.h ?_);first|simp (disch:=omega) only [↓LD,LA,a0A,seval]|(refine And.intro ?_ ?_;omega)|simp only [D.int,D.bool]))
   exact RetS.still (ds:=[.ag (stKT 5 6 ⟨e.id,e.ver,e.time,s'.closed,s'.cancel,s'.defs,s'.nodes,s'.tms,s'.sgs⟩),D.int 0]) (by kernel_rfl) (by kernel_rfl) (.tps (.cons (w0V (by dsimp only;rw [hnn];try rfl) rfl) (.cons .f .nil))) (hQ _ _ rfl rfl)
 ·have hb:a0c ⟨id,ver,time,closed,cancel,defs,nodes,tms,sgs⟩ e=(13,⟨id,ver,time,closed,cancel,defs,nodes,tms,sgs⟩):=by simp [a0c,a0b,a0m,a0n, *]
  rw [hb] at hQ
  rw [if_pos (by simp)] at hQ
  exact RetS.still (ds:=[.ag [jI,jI,jI,jI,jF,jN,jN,jN,jN],D.int 13]) (by kernel_rfl) (by kernel_rfl) (.tps (.cons (.ags (.cons .f (.cons .f (.cons .f (.cons .f (.cons .f (.cons .nil (.cons .nil (.cons .nil (.cons .nil .nil)))))))))) (.cons .f .nil))) (hQ _ _ rfl rfl)
 ·have hz0:sgs.length=0:=by assumption
  obtain rfl:=List.eq_nil_of_length_eq_zero hz0
  have hb:a0c ⟨id,ver,time,closed,cancel,defs,nodes,tms,[]⟩ e=(0,⟨id,ver,time,closed,cancel,defs,nodes,tms,[]++[(⟨e.name,e.id,e.data⟩:Sg)]⟩):=by simp [a0c,a0b, *]
  rw [hb,if_neg (by simp)] at hQ
  exact RetS.still (ds:=[.ag (stKS 5 8 ⟨e.id,e.ver,e.time,closed,cancel,defs,nodes,tms,[]++[(⟨e.name,e.id,e.data⟩:Sg)]⟩),D.int 0]) (by kernel_rfl) (by kernel_rfl) (.tps (.cons (u0W rfl rfl) (.cons .f .nil))) (hQ _ _ rfl rfl)
 ·have hb:a0c ⟨id,ver,time,closed,cancel,defs,nodes,tms,sgs⟩ e=(0,⟨id,ver,time,closed,cancel,defs,nodes,tms,sgs++[(⟨e.name,e.id,e.data⟩:Sg)]⟩):=by simp [a0c,a0b, *]
  rw [hb,if_neg (by simp)] at hQ
  have e1:sgs.flatMap Sg.cs++[F.v (.string (BB e.name)),.v (.int .i64 e.id),fY e.data]=(sgs++[(⟨e.name,e.id,e.data⟩:Sg)]).flatMap Sg.cs:=by simp [Sg.cs]
  have e2:sgs.length+1=(sgs++[(⟨e.name,e.id,e.data⟩:Sg)]).length:=by simp
  rw [e1,e2]
  exact RetS.still (ds:=[.ag (stKS 5 9 ⟨e.id,e.ver,e.time,closed,cancel,defs,nodes,tms,sgs++[(⟨e.name,e.id,e.data⟩:Sg)]⟩),D.int 0]) (by kernel_rfl) (by kernel_rfl) (.tps (.cons (u0W rfl rfl) (.cons .f .nil))) (hQ _ _ rfl rfl)
 ·have hb:a0c ⟨id,ver,time,closed,cancel,defs,nodes,tms,sgs⟩ e=(4,⟨id,ver,time,closed,cancel,defs,nodes,tms,sgs⟩):=by simp [a0c,a0b,a0m,a0n, *]
  rw [hb] at hQ
  rw [if_pos (by simp)] at hQ
  exact RetS.still (ds:=[.ag [jI,jI,jI,jI,jF,jN,jN,jN,jN],D.int 4]) (by kernel_rfl) (by kernel_rfl) (.tps (.cons (.ags (.cons .f (.cons .f (.cons .f (.cons .f (.cons .f (.cons .nil (.cons .nil (.cons .nil (.cons .nil .nil)))))))))) (.cons .f .nil))) (hQ _ _ rfl rfl)
 ·have hb:a0c ⟨id,ver,time,closed,cancel,defs,nodes,tms,sgs⟩ e=(0,⟨id,ver,time,closed,true,defs,nodes,tms,sgs⟩):=by simp [a0c,a0b,a0m,a0n, *]
  rw [hb] at hQ
  rw [if_neg (by simp)] at hQ
  exact RetS.still (ds:=[.ag (stK 5 ⟨e.id,e.ver,e.time,closed,true,defs,nodes,tms,sgs⟩),D.int 0]) (by kernel_rfl) (by kernel_rfl) (.tps (.cons (b0p rfl) (.cons .f .nil))) (hQ _ _ rfl rfl)
 ·have hb:a0c ⟨id,ver,time,closed,cancel,defs,nodes,tms,sgs⟩ e=(0,⟨id,ver,time,e.ty,cancel,defs,nodes,tms,sgs⟩):=by simp [a0c,a0b,a0m,a0n, *]
  rw [hb] at hQ
  rw [if_neg (by simp)] at hQ
  exact RetS.still (ds:=[.ag (stK 5 ⟨e.id,e.ver,e.time,e.ty,cancel,defs,nodes,tms,sgs⟩),D.int 0]) (by kernel_rfl) (by kernel_rfl) (.tps (.cons (b0p rfl) (.cons .f .nil))) (hQ _ _ rfl rfl)
 ·have h6:¬ ((cntL nodes 2:Int)=defs.length):=by rw [←hnd];assumption
  have hb:a0c ⟨id,ver,time,closed,cancel,defs,nodes,tms,sgs⟩ e=(4,⟨id,ver,time,closed,cancel,defs,nodes,tms,sgs⟩):=by simp [a0c,a0b,a0m,a0n, *]
  rw [hb] at hQ
  rw [if_pos (by simp)] at hQ
  exact RetS.still (ds:=[.ag [jI,jI,jI,jI,jF,jN,jN,jN,jN],D.int 4]) (by kernel_rfl) (by kernel_rfl) (.tps (.cons (.ags (.cons .f (.cons .f (.cons .f (.cons .f (.cons .f (.cons .nil (.cons .nil (.cons .nil (.cons .nil .nil)))))))))) (.cons .f .nil))) (hQ _ _ rfl rfl)
 ·have h3:¬ (0<cntL nodes 3):=by omega
  have hb:a0c ⟨id,ver,time,closed,cancel,defs,nodes,tms,sgs⟩ e=(4,⟨id,ver,time,closed,cancel,defs,nodes,tms,sgs⟩):=by simp [a0c,a0b,a0m,a0n, *]
  rw [hb] at hQ
  rw [if_pos (by simp)] at hQ
  exact RetS.still (ds:=[.ag [jI,jI,jI,jI,jF,jN,jN,jN,jN],D.int 4]) (by kernel_rfl) (by kernel_rfl) (.tps (.cons (.ags (.cons .f (.cons .f (.cons .f (.cons .f (.cons .f (.cons .nil (.cons .nil (.cons .nil (.cons .nil .nil)))))))))) (.cons .f .nil))) (hQ _ _ rfl rfl)
 ·have h3:0<cntL nodes 3:=by omega
  have hb:a0c ⟨id,ver,time,closed,cancel,defs,nodes,tms,sgs⟩ e=(0,⟨id,ver,time,e.ty,cancel,defs,nodes,tms,sgs⟩):=by simp [a0c,a0b,a0m,a0n, *]
  rw [hb] at hQ
  rw [if_neg (by simp)] at hQ
  exact RetS.still (ds:=[.ag (stK 5 ⟨e.id,e.ver,e.time,e.ty,cancel,defs,nodes,tms,sgs⟩),D.int 0]) (by kernel_rfl) (by kernel_rfl) (.tps (.cons (b0p rfl) (.cons .f .nil))) (hQ _ _ rfl rfl)
 ·have h4:cancel=false:=by simpa using (show (!cancel)=true by assumption)
  have hb:a0c ⟨id,ver,time,closed,cancel,defs,nodes,tms,sgs⟩ e=(4,⟨id,ver,time,closed,cancel,defs,nodes,tms,sgs⟩):=by simp [a0c,a0b,a0m,a0n, *]
  rw [hb] at hQ
  rw [if_pos (by simp)] at hQ
  exact RetS.still (ds:=[.ag [jI,jI,jI,jI,jF,jN,jN,jN,jN],D.int 4]) (by kernel_rfl) (by kernel_rfl) (.tps (.cons (.ags (.cons .f (.cons .f (.cons .f (.cons .f (.cons .f (.cons .nil (.cons .nil (.cons .nil (.cons .nil .nil)))))))))) (.cons .f .nil))) (hQ _ _ rfl rfl)
 ·have h4:cancel=true:=by simpa using (show (!cancel)=false by assumption)
  have h5:¬ (cntL nodes 1=0):=by omega
  have hb:a0c ⟨id,ver,time,closed,cancel,defs,nodes,tms,sgs⟩ e=(4,⟨id,ver,time,closed,cancel,defs,nodes,tms,sgs⟩):=by simp [a0c,a0b,a0m,a0n, *]
  rw [hb] at hQ
  rw [if_pos (by simp)] at hQ
  exact RetS.still (ds:=[.ag [jI,jI,jI,jI,jF,jN,jN,jN,jN],D.int 4]) (by kernel_rfl) (by kernel_rfl) (.tps (.cons (.ags (.cons .f (.cons .f (.cons .f (.cons .f (.cons .f (.cons .nil (.cons .nil (.cons .nil (.cons .nil .nil)))))))))) (.cons .f .nil))) (hQ _ _ rfl rfl)
 ·have h4:cancel=true:=by simpa using (show (!cancel)=false by assumption)
  have h5:cntL nodes 1=0:=by omega
  have hb:a0c ⟨id,ver,time,closed,cancel,defs,nodes,tms,sgs⟩ e=(0,⟨id,ver,time,e.ty,cancel,defs,nodes,tms,sgs⟩):=by simp [a0c,a0b,a0m,a0n, *]
  rw [hb] at hQ
  rw [if_neg (by simp)] at hQ
  exact RetS.still (ds:=[.ag (stK 5 ⟨e.id,e.ver,e.time,e.ty,cancel,defs,nodes,tms,sgs⟩),D.int 0]) (by kernel_rfl) (by kernel_rfl) (.tps (.cons (b0p rfl) (.cons .f .nil))) (hQ _ _ rfl rfl)
 ·have hb:a0c ⟨id,ver,time,closed,cancel,defs,nodes,tms,sgs⟩ e=(0,⟨id,ver,time,e.ty,cancel,defs,nodes,tms,sgs⟩):=by simp [a0c,a0b,a0m,a0n, *]
  rw [hb] at hQ
  rw [if_neg (by simp)] at hQ
  exact RetS.still (ds:=[.ag (stK 5 ⟨e.id,e.ver,e.time,e.ty,cancel,defs,nodes,tms,sgs⟩),D.int 0]) (by kernel_rfl) (by kernel_rfl) (.tps (.cons (b0p rfl) (.cons .f .nil))) (hQ _ _ rfl rfl)
structure Ok12 (s:S12):Prop where
 id:0≤s.id∧s.id≤200
 zero:s.id=0→s=s0
 defs:s.id≠0→a0p s.defs=0
 len:s.nodes.length=s.defs.length
 ndata:∀ x∈s.nodes,x.data.length≤40∧(x.st≠2→x.data=[])
 tr:∀ x∈s.nodes,0≤x.tr∧x.tr≤5
 tms:s.tms.length≤8
 sgs:(s.sgs.length:Int)≤s.id
 sdata:∀ x∈s.sgs,x.data.length≤40
 need:∀ d∈s.defs,d.ns.length<1000000
 tname:∀ x∈s.tms,x.name.length≤16
 sname:∀ x∈s.sgs,x.name.length≤16
theorem v0z:Ok12 s0:=by
 refine ⟨⟨by decide,by decide⟩,fun _=>rfl,fun h=>absurd rfl h,rfl,?_,?_,by decide,by decide,?_,?_,?_,?_⟩
 all_goals (intro x hx;simp [s0] at hx)
theorem Ok12.fitA {s:S12}(h:Ok12 s):FitA s∧Pos s.defs∧(s.nodes.length=0↔s.id=0):=by
 by_cases hi:s.id=0
 ·have:=h.zero hi
  subst this
  refine ⟨⟨⟨⟨fun d hd=>by simp [s0] at hd,by decide⟩,by decide,fun x hx=>by simp [s0] at hx,by decide,by decide,fun x hx=>by simp [s0] at hx⟩,⟨by decide,fun d hd=>by simp [s0] at hd⟩,fun d hd=>by simp [s0] at hd,fun x hx=>by simp [s0] at hx⟩,fun d hd=>by simp [s0] at hd,by decide⟩
 ·have hc:=h.defs hi
  obtain ⟨c1,c2,c3,c4⟩:=u0R hc
  have hid:=h.id
  have hsg:=h.sgs
  refine ⟨⟨⟨⟨fun d hd=>h.need d hd,by omega⟩,by have:=h.len;omega,fun x hx=>by have:=(h.ndata x hx).1;omega,by have:=h.tms;omega,by omega,fun x hx=>by have:=h.sdata x hx;omega⟩,⟨by omega,h.need⟩,fun d hd=>?_,fun x hx=>by have:=h.tr x hx;omega⟩,p0M hc,by have:=h.len;constructor<;>intro<;>omega⟩
  have:=List.all_eq_true.1 c3 d hd
  simp only [a0x,Bool.and_eq_true,decide_eq_true_eq] at this
  omega
theorem t0Q {α:Type}{l:List α}{k:Nat}{y x:α}(h:x∈l.set k y):x∈l∨x=y:=by
 rcases List.mem_or_eq_of_mem_set h with h|h
 ·exact .inl h
 ·exact .inr h
theorem n0T {l:Bs}(h:e0D l=true):l.length≤16:=by
 simp only [e0D,Bool.and_eq_true,decide_eq_true_eq] at h;exact h.1.2
structure OkT (s t:S12)(i:Int):Prop where
 defs:a0p t.defs=0
 len:t.nodes.length=t.defs.length
 ndata:∀ x∈t.nodes,x.data.length≤40∧(x.st≠2→x.data=[])
 tr:∀ x∈t.nodes,0≤x.tr∧x.tr≤5
 tms:t.tms.length≤8
 sgs:(t.sgs.length:Int)≤i
 sdata:∀ x∈t.sgs,x.data.length≤40
 need:∀ d∈t.defs,d.ns.length<1000000
 tname:∀ x∈t.tms,x.name.length≤16
 sname:∀ x∈t.sgs,x.name.length≤16
theorem Ok12.same {s:S12}(h:Ok12 s)(hi:s.id≠0)(c:Int)(b:Bool):OkT s ⟨s.id,s.ver,s.time,c,b,s.defs,s.nodes,s.tms,s.sgs⟩ (s.id+1) :=
 ⟨h.defs hi,h.len,h.ndata,h.tr,h.tms,by have:=h.sgs;dsimp only;omega,h.sdata,h.need,h.tname,h.sname⟩
theorem Ok12.nodes {s:S12}(h:Ok12 s)(hi:s.id≠0){k:Nat}{y:Nn}(h1:y.data.length≤40∧(y.st≠2→y.data=[]))(h2:0≤y.tr∧y.tr≤5):OkT s { s with nodes:=s.nodes.set k y } (s.id+1):=by
 refine ⟨h.defs hi,by dsimp only;rw [List.length_set];exact h.len,?_,?_,h.tms,by have:=h.sgs;dsimp only;omega,h.sdata,h.need,h.tname,h.sname⟩
 ·intro x hx
  rcases t0Q hx with hx|rfl
  ·exact h.ndata x hx
  ·exact h1
 ·intro x hx
  rcases t0Q hx with hx|rfl
  ·exact h.tr x hx
  ·exact h2
theorem b1w {s:S12}{e:Ev}(h:Ok12 s)(hr:b0D e=true)(hd:∀ d∈e.defs,d.ns.length<1000000)(hz:s.id=0↔e.ty=1)(ht:(a0c s e).1=0):OkT s (a0c s e).2 (s.id+1):=by
 have hE:=rightE_iff.1 hr
 have hdl:e.data.length≤40:=by
  rcases hE.2.2.2.2.2.2.2.1 with h|h
  ·rw [h];decide
  ·exact h.2
 unfold a0c at ht ⊢
 by_cases h1:e.ty=1
 ·rw [if_pos h1] at ht ⊢
  have hs0:=h.zero (hz.2 h1)
  subst hs0
  by_cases hc:a0p e.defs=0
  ·rw [if_neg (fun hh=>hh hc)] at ht ⊢
   refine ⟨hc,by simp,?_,?_,by simp [s0],by simp [s0],?_,hd,?_,?_⟩
   ·intro x hx
    obtain ⟨_,rfl⟩:=List.mem_replicate.1 hx
    exact ⟨by decide,fun _=>rfl⟩
   ·intro x hx
    obtain ⟨_,rfl⟩:=List.mem_replicate.1 hx
    exact ⟨by decide,by decide⟩
   all_goals (intro x hx;simp [s0] at hx)
  ·rw [if_pos hc] at ht;cases ht
 rw [if_neg h1] at ht ⊢
 have hi:s.id≠0:=fun hh=>h1 (hz.1 hh)
 by_cases h2:e.ty=2∨e.ty=3∨e.ty=4
 ·rw [if_pos h2] at ht ⊢
  have hn:=hE.2.2.2.2.1
  rw [if_pos h2] at hn
  unfold b0X at ht ⊢
  by_cases a1:(s.nodes.length:Int)≤e.node
  ·rw [if_pos a1] at ht;cases ht
  rw [if_neg a1] at ht ⊢
  have hm:=a0L (l:=s.nodes) (k:=e.node.toNat) (by omega)
  have hb1:=h.ndata _ hm
  have hb2:=h.tr _ hm
  by_cases a2:e.ty=2
  ·rw [if_pos a2] at ht ⊢
   by_cases a3:e.node ∉ a0a s∨e.n≠(gt s.nodes e.node.toNat).tr+1
   ·rw [if_pos a3] at ht;cases ht
   rw [if_neg a3]
   exact h.nodes hi ⟨by simp,by simp⟩ ⟨by dsimp only;omega,by dsimp only;omega⟩
  rw [if_neg a2] at ht ⊢
  by_cases a3:(gt s.nodes e.node.toNat).st≠1∨e.n≠(gt s.nodes e.node.toNat).tr
  ·rw [if_pos a3] at ht;cases ht
  rw [if_neg a3]
  have a4:(gt s.nodes e.node.toNat).st=1:=Decidable.not_not.1 fun hh=>a3 (.inl hh)
  have hb3:=hb1.2 (by omega)
  split
  ·exact h.nodes hi ⟨hdl,by simp⟩ hb2
  ·split
   ·exact h.nodes hi ⟨hb1.1,fun _=>hb3⟩ hb2
   ·exact h.nodes hi ⟨hb1.1,fun _=>hb3⟩ hb2
 rw [if_neg h2] at ht ⊢
 by_cases h3:e.ty=5∨e.ty=6
 ·rw [if_pos h3] at ht ⊢
  have hn:=hE.2.2.2.2.2.2.1
  rw [if_pos (by omega)] at hn
  unfold a0g at ht ⊢
  by_cases a1:e.ty=5
  ·rw [if_pos a1] at ht ⊢
   unfold armL at ht ⊢
   by_cases a2:0≤tmI s.tms e.name
   ·rw [if_pos a2] at ht;cases ht
   rw [if_neg a2] at ht ⊢
   by_cases a3:8≤s.tms.length
   ·rw [if_pos a3] at ht;cases ht
   rw [if_neg a3] at ht ⊢
   refine ⟨h.defs hi,h.len,h.ndata,h.tr,by simp;omega,by have:=h.sgs;dsimp only;omega,h.sdata,h.need,?_,h.sname⟩
   intro x hx
   rcases List.mem_append.1 hx with hx|hx
   ·exact h.tname x hx
   ·obtain rfl:=List.mem_singleton.1 hx;exact n0T hn
  ·rw [if_neg a1] at ht ⊢
   unfold c0R at ht ⊢
   by_cases a2:tmI s.tms e.name<0
   ·rw [if_pos a2] at ht;cases ht
   rw [if_neg a2] at ht ⊢
   by_cases a3:(gt s.tms (tmI s.tms e.name).toNat).fired=true∨e.time<(gt s.tms (tmI s.tms e.name).toNat).due
   ·rw [if_pos a3] at ht;cases ht
   rw [if_neg a3] at ht ⊢
   refine ⟨h.defs hi,h.len,h.ndata,h.tr,by simp;exact h.tms,by have:=h.sgs;dsimp only;omega,h.sdata,h.need,?_,h.sname⟩
   intro x hx
   rcases t0Q hx with hx|rfl
   ·exact h.tname x hx
   ·have:=u0X s.tms e.name
    have hm:=a0L (l:=s.tms) (k:=(tmI s.tms e.name).toNat) (by omega)
    have hm2:=h.tname _ hm
    exact hm2
 rw [if_neg h3] at ht ⊢
 by_cases h4:e.ty=7
 ·rw [if_pos h4] at ht ⊢
  have hn:=hE.2.2.2.2.2.2.1
  rw [if_pos (by omega)] at hn
  unfold a0b at ht ⊢
  by_cases a1:c0i s.sgs e.name=true
  ·rw [if_pos a1] at ht;cases ht
  rw [if_neg a1] at ht ⊢
  refine ⟨h.defs hi,h.len,h.ndata,h.tr,h.tms,by have:=h.sgs;simp;omega,?_,h.need,h.tname,?_⟩
  all_goals
   intro x hx
   rcases List.mem_append.1 hx with hx|hx
  ·exact h.sdata x hx
  ·obtain rfl:=List.mem_singleton.1 hx;exact hdl
  ·exact h.sname x hx
  ·obtain rfl:=List.mem_singleton.1 hx;exact n0T hn
 rw [if_neg h4] at ht ⊢
 by_cases h5:e.ty=8
 ·rw [if_pos h5] at ht ⊢
  unfold a0m at ht ⊢
  by_cases a1:s.cancel=true
  ·rw [if_pos a1] at ht;cases ht
  rw [if_neg a1];exact h.same hi _ _
 rw [if_neg h5] at ht ⊢
 by_cases h6:a0n s e.ty=true
 ·rw [if_pos h6];exact h.same hi _ _
 ·rw [if_neg h6] at ht;cases ht
theorem c0D {s:S12}{e:Ev}(hr:(a0I s e).1=0):b0D e=true∧e.id=s.id+1∧s.ver≤e.ver∧s.time≤e.time∧s.closed=0∧(s.id=0↔e.ty=1)∧(a0c s e).1=0∧(a0I s e).2={ (a0c s e).2 with id:=e.id,ver:=e.ver,time:=e.time }:=by
 unfold a0I at hr ⊢
 by_cases a1:b0D e=false∨e.id≠s.id+1∨e.ver<s.ver∨e.time<s.time
 ·rw [if_pos a1] at hr;cases hr
 rw [if_neg a1] at hr ⊢
 by_cases a2:s.closed≠0
 ·rw [if_pos a2] at hr;cases hr
 rw [if_neg a2] at hr ⊢
 by_cases a3:decide (s.id=0)≠decide (e.ty=1)
 ·rw [if_pos a3] at hr;cases hr
 rw [if_neg a3] at hr ⊢
 by_cases a4:(a0c s e).1≠0
 ·rw [if_pos a4] at hr;exact absurd hr a4
 rw [if_neg a4]
 refine ⟨by simpa using fun h=>a1 (.inl h),by omega,by omega,by omega,by omega,?_,by omega,rfl⟩
 simp only [ne_eq,Decidable.not_not,decide_eq_decide] at a3
 exact a3
theorem c0U {s:S12}{e:Ev}(h:Ok12 s)(hd:∀ d∈e.defs,d.ns.length<1000000)(hr:(a0I s e).1=0):Ok12 (a0I s e).2:=by
 obtain ⟨a1,a2,a3,a4,a5,a6,a7,a8⟩:=c0D hr
 have ht:=b1w h a1 hd a6 a7
 have hE:=rightE_iff.1 a1
 rw [a8]
 refine ⟨⟨by dsimp only;omega,by dsimp only;omega⟩,fun hh=>by dsimp only at hh;omega,fun _=>ht.defs,ht.len,ht.ndata,ht.tr,ht.tms,by have:=ht.sgs;dsimp only;omega,ht.sdata,ht.need,ht.tname,ht.sname⟩
theorem y0z {s:S12}(h:a0p s.defs=0):c0H s=a0a s:=by
 unfold c0H a0a b0i
 rw [if_pos h]
theorem p0y {s:S12}{k:Int}(h:k∈a0a s):k<s.nodes.length∧(gt s.nodes k.toNat).st=0∧s.closed=0∧s.cancel=false∧k∈rdy (a0j s.nodes) 0 s.defs:=by
 unfold a0a at h
 split at h
 ·simp at h
 ·rename_i hc
  obtain ⟨h1,h2⟩:=List.mem_filter.1 h
  simp only [wtB,Bool.and_eq_true,decide_eq_true_eq] at h2
  refine ⟨h2.1,h2.2,?_,?_,h1⟩
  ·exact Decidable.not_not.1 fun hh=>hc (.inl hh)
  ·cases hb:s.cancel with
   | false=>rfl
   | true=>exact absurd (.inr hb) hc
theorem e1h {s:S12}{e:Ev}(h:Ok12 s)(hr:b0D e=true)(hz:s.id=0↔e.ty=1):b0b s e=a0c s e:=by
 have hE:=rightE_iff.1 hr
 unfold b0b a0c
 by_cases h1:e.ty=1
 ·rw [if_pos h1,if_pos h1]
  unfold c0n
  by_cases hc:a0p e.defs=0
  ·rw [if_pos hc,if_neg (fun hh=>hh hc)]
  ·rw [if_neg hc,if_pos hc]
 rw [if_neg h1,if_neg h1]
 have hi:s.id≠0:=fun hh=>h1 (hz.1 hh)
 have hck:=h.defs hi
 have hl:=h.len
 by_cases h2:e.ty=2
 ·have hn:=hE.2.2.2.2.1
  rw [if_pos (.inl h2)] at hn
  rw [if_pos h2,if_pos (.inl h2)]
  unfold c0P b0X
  rw [y0z hck]
  by_cases a1:(s.nodes.length:Int)≤e.node
  ·rw [if_pos (.inl a1),if_pos a1]
  rw [if_neg (by omega),if_neg a1,if_pos h2]
  by_cases a3:e.node ∉ a0a s∨e.n≠(gt s.nodes e.node.toNat).tr+1
  ·rw [if_pos a3,if_pos a3]
  rw [if_neg a3,if_neg a3]
  have a4:e.node∈a0a s:=Decidable.not_not.1 fun hh=>a3 (.inl hh)
  have a5:=(p0y a4).2.1
  have a6:=(h.ndata _ (a0L (l:=s.nodes) (k:=e.node.toNat) (by omega))).2 (by rw [a5];decide)
  dsimp only
  rw [a6]
 rw [if_neg h2]
 by_cases h3:e.ty=3∨e.ty=4
 ·rw [if_pos h3,if_pos (.inr h3)]
  unfold endL b0X
  by_cases a1:(s.nodes.length:Int)≤e.node
  ·rw [if_pos (.inl a1),if_pos a1]
  rw [if_neg (by omega),if_neg a1,if_neg h2]
  by_cases a3:(gt s.nodes e.node.toNat).st≠1∨e.n≠(gt s.nodes e.node.toNat).tr
  ·rw [if_pos a3,if_pos a3]
  rw [if_neg a3,if_neg a3]
  by_cases a4:e.ty=3
  ·rw [if_pos a4,if_pos a4]
  rw [if_neg a4,if_neg a4]
  by_cases a5:(gt s.nodes e.node.toNat).tr=(gt s.defs e.node.toNat).tr
  ·rw [if_pos a5,if_pos a5]
  ·rw [if_neg a5,if_neg a5]
 rw [if_neg h3,if_neg (show ¬ (e.ty=2∨e.ty=3∨e.ty=4) by omega)]
 by_cases h5:e.ty=5
 ·rw [if_pos h5,if_pos (.inl h5),a0g,if_pos h5]
 rw [if_neg h5]
 by_cases h6:e.ty=6
 ·rw [if_pos h6,if_pos (.inr h6),a0g,if_neg h5]
 rw [if_neg h6,if_neg (show ¬ (e.ty=5∨e.ty=6) by omega)]
theorem y0E {s:S12}{e:Ev}(h:Ok12 s):y0y s e=a0I s e:=by
 unfold y0y c0F a0I
 by_cases a1:b0D e=false∨e.id≠s.id+1∨e.ver<s.ver∨e.time<s.time
 ·rw [if_pos a1,if_pos a1];try rfl
 rw [if_neg a1,if_neg a1]
 by_cases a2:s.closed≠0
 ·rw [if_pos a2,if_pos a2];try rfl
 rw [if_neg a2,if_neg a2]
 by_cases a3:decide (s.id=0)≠decide (e.ty=1)
 ·rw [if_pos a3,if_pos a3];try rfl
 rw [if_neg a3,if_neg a3]
 simp only [ne_eq,Decidable.not_not,decide_eq_decide] at a3
 rw [e1h h (by simpa using fun h=>a1 (.inl h)) a3]
 by_cases a4:(a0c s e).1=0
 ·rw [if_pos a4,if_neg (fun hh=>hh a4)]
 ·rw [if_neg a4,if_pos a4]
def FitV (e:Ev):Prop:=e.data.length≤1000000∧e.name.length≤1000000∧Fit e.defs
def a0N:S12→List Ev→Int × S12
 | s,[]=>(0,s)
 | s,e :: l=>if (a0I s e).1=0 then a0N (a0I s e).2 l else ((a0I s e).1,s0)
theorem u0e:∀ {l:List Ev} {s:S12},Ok12 s→(∀ e∈l,FitV e)→(a0N s l).1=0→Ok12 (a0N s l).2
 | [],s,h,_,_=>h
 | e :: l,s,h,hl,hr=>by
  rw [a0N] at hr ⊢
  by_cases a:(a0I s e).1=0
  ·rw [if_pos a] at hr ⊢
   exact u0e (c0U h (hl e (by simp)).2.2.2 a) (fun x hx=>hl x (by simp [hx])) hr
  ·rw [if_neg a] at hr;exact absurd hr a
theorem i0y:∀ {l m:List Ev} {s:S12},(a0N s l).1=0→a0N s (l++m)=a0N (a0N s l).2 m
 | [],m,s,_=>rfl
 | e :: l,m,s,h=>by
  rw [List.cons_append,a0N,a0N]
  rw [a0N] at h
  by_cases a:(a0I s e).1=0
  ·rw [if_pos a] at h ⊢
   rw [if_pos a];exact i0y h
  ·rw [if_neg a] at h;exact absurd h a
def fEv (l:List Ev):F:=.s (l.flatMap Ev.cs) l.length
theorem u0Z {g:List Ev}:slcS (.f (fEv g))=some g.length:=id rfl
theorem u0Y {g:List Ev}{sz:Nat}{k:IntKind}{i:Int}{K:D→Prop}:idxS sz (.f (fEv g)) (.f (.v (.int k i))) K=((0≤i∧i<g.length)∧K (.rf ((g.flatMap Ev.cs).drop (i.toNat*sz)))):=id rfl
theorem m0Q {H:List Row}{g:List Ev}{sz:Nat}:b0Q H sz (.f (fEv g))=some (g.length,g.flatMap Ev.cs):=id rfl
theorem t0i {k:Nat}{g:List Ev}{K:Bool→Prop}:c0y k (.f (fEv g)) (.f (.v (.slice none 0 0))) K=(k=0∧Nz g.length (K true) (K false)):=id rfl
theorem a0J {g:List Ev}:(g.flatMap Ev.cs).length=g.length*9:=b0F Ev.cs_len g
theorem b0k {H:List Row}{g:List Ev}{k:Nat}(hk:k<g.length):loadA H 9 (.rf ((g.flatMap Ev.cs).drop (k*9)))=some (.ag ((Ev.cs (gt g k)).map .f)):=b0t Ev.cs_len hk
theorem o0L {g:List Ev}{k:Nat}(hk:k<g.length):(g.flatMap Ev.cs)[k*9]?=(Ev.cs (gt g k))[0]?:=a0s (j:=0) Ev.cs_len hk (by omega)
theorem d0c {g:List Ev}{k:Nat}(hk:k<g.length):(g.flatMap Ev.cs)[k*9+1]?=(Ev.cs (gt g k))[1]?:=a0s (j:=1) Ev.cs_len hk (by omega)
theorem n0x {g:List Ev}{k:Nat}(hk:k<g.length):(g.flatMap Ev.cs)[k*9+2]?=(Ev.cs (gt g k))[2]?:=a0s (j:=2) Ev.cs_len hk (by omega)
theorem g1P {g:List Ev}{k:Nat}(hk:k<g.length):(g.flatMap Ev.cs)[k*9+5]?=(Ev.cs (gt g k))[5]?:=a0s (j:=5) Ev.cs_len hk (by omega)
theorem LEv:((type_of% @u0Z∧type_of% @u0Y)∧(type_of% @m0Q∧type_of% @t0i)):=⟨⟨@u0Z,@u0Y⟩,⟨@m0Q,@t0i⟩⟩
structure Wk12 (s:S12):Prop where
 fit:FitA s
 pos:Pos s.defs
 len:s.nodes.length=s.defs.length
 id:0≤s.id∧s.id<1000000000
 zero:s.nodes.length=0↔s.id=0
theorem Ok12.wk {s:S12}(h:Ok12 s):Wk12 s:=by
 obtain ⟨h1,h2,h3⟩:=h.fitA
 have:=h.id
 exact ⟨h1,h2,h.len,⟨by omega,by omega⟩,h3⟩
theorem Ok12.wk1 {s:S12}(h:Ok12 s)(hi:s.id≠0):Wk12 { s with id:=1 }:=by
 obtain ⟨h1,h2,h3⟩:=h.fitA
 exact ⟨⟨⟨h1.fit.defs,h1.fit.nodes,h1.fit.ndata,h1.fit.tms,h1.fit.sgs,h1.fit.sdata⟩,h1.defs,h1.le,h1.tr⟩,h2,h.len,⟨by simp,by simp⟩,by dsimp only;omega⟩
theorem Wk12.app {s:S12}{e:Ev}(h:Wk12 s)(he:FitV e):Con Tryz.prog 66 [stD s,evD e] [] fun r H'=>r = .tp [stD (a0I s e).2,D.int (a0I s e).1]∧H'=[] :=
 s0P s e h.fit h.pos h.len he.1 he.2.1 he.2.2 h.id h.zero
theorem a1K {H:List Row}{s:S12}:Vw H (stD s) (stD s):=.ags (.cons .f (.cons .f (.cons .f (.cons .f (.cons .f (.cons .f (.cons .f (.cons .f (.cons .f .nil)))))))))
abbrev sA (s:S12):D:=.ag [.f (.v (.int .i64 s.id)),.f (.v (.int .i64 s.ver)),.f (.v (.int .i64 s.time)),.f (.v (.int .i64 s.closed)),.f (.v (.bool s.cancel)),.f (fG s.defs),.f (fNn s.nodes),.f (fTm s.tms),.f (fSg s.sgs)]
abbrev eA (e:Ev):D:=.ag [.f (.v (.int .i64 e.id)),.f (.v (.int .i64 e.ver)),.f (.v (.int .i64 e.time)),.f (.v (.int .i64 e.ty)),.f (.v (.int .i64 e.node)),.f (.v (.int .i64 e.n)),.f (.v (.string (BB e.name))),.f (fY e.data),.f (fG e.defs)]
instance {s:S12}{e:Ev}{H:List Row}{K:Bool→D→List Row→Prop}[hs:Kn (Wk12 s)][he:Kn (FitV e)]:Wa (a0e Tryz.prog (.fn 66 []) [.ag [.f (.v (.int .i64 s.id)),.f (.v (.int .i64 s.ver)),.f (.v (.int .i64 s.time)),.f (.v (.int .i64 s.closed)),.f (.v (.bool s.cancel)),.f (fG s.defs),.f (fNn s.nodes),.f (fTm s.tms),.f (fSg s.sgs)],.ag [.f (.v (.int .i64 e.id)),.f (.v (.int .i64 e.ver)),.f (.v (.int .i64 e.time)),.f (.v (.int .i64 e.ty)),.f (.v (.int .i64 e.node)),.f (.v (.int .i64 e.n)),.f (.v (.string (BB e.name))),.f (fY e.data),.f (fG e.defs)]] H K)
  (K true (.tp [sA (a0I s e).2,.f (.v (.int .i64 (a0I s e).1))]) H):=⟨fun h=>a0M (Wk12.app hs.h he.h) rfl rfl rfl h⟩
set_option maxRecDepth 100000 in
theorem x0d (l:List Ev)(hl:l.length≤1000000)(hf:∀ e∈l,FitV e):Con Tryz.prog 28 [.f (fEv l)] [] fun r H'=>r = .tp [stD (a0N s0 l).2,D.int (a0N s0 l).1]∧H'=[]:=by
 refine Con.walk good j0v (by simp) ?_
 unfold f0x
 simp only [a0K]
 repeat' (with_reducible first|refine Wx.h ?_|refine Wb.h fun K hK=>?_|(refine hK _ ?_;clear hK K)|(refine wT ?_ ?_;assumption)|(refine wF ?_ ?_;assumption)|(refine Wy.h ?_ ?_;kernel_rfl)|refine Wq.h ?_ ?_<;>intro h<;>try (exfalso;omega)|refine Wu.h ?_ ?_<;>intro h<;>try simp only [h]|((fail_if_success refine Wz.h ?_);first|simp (disch:=omega) only [↓LD,LA,a0A,seval,LEv]|(refine And.intro ?_ ?_;omega)|simp only [D.int,D.bool]))
 refine HS.view (View.bcell 1 5 (.f (.s [] 0)) rfl rfl .ns) ?_
 refine HS.view (View.bcell 1 6 (.f (.s [] 0)) rfl rfl .ns) ?_
 refine HS.view (View.bcell 1 7 (.f (.s [] 0)) rfl rfl .ns) ?_
 refine HS.view (View.bcell 1 8 (.f (.s [] 0)) rfl rfl .ns) ?_
 refine HS.loopG [0,2,4,5] (fun x:Nat × S12=>⟨frm 27 [(0,.f (fEv l)),(2,.pt 0 0),(4,.pt 1 0),(5,D.int x.1)],[.box 65 [jI,jI,jI,jI,jF,jN,jN,jN,jN],stF x.2],[]⟩)
  (fun x=>x.1≤l.length∧Ok12 x.2∧a0N s0 l=a0N x.2 (l.drop x.1)) (fun x=>l.length-x.1) (0,s0) (by kernel_rfl) ⟨Nat.zero_le _,v0z,rfl⟩ ?_
 rintro ⟨i,s⟩ ⟨hi,ho,hF⟩
 dsimp only at hi ho hF
 by_cases hil:i<l.length
 ·rw [a0G hil,a0N] at hF
  have hv:=hf _ (a0L hil)
  haveI:Kn (Wk12 s):=⟨ho.wk⟩
  haveI:Kn (FitV (gt l i)):=⟨hv⟩
  repeat' (with_reducible first|refine Wx.h ?_|refine We.h fun K hK=>?_|refine Wd.h fun K M hK hM=>?_|(refine hK _ _ _ _ ?_;clear hK K;try clear hM M)|(refine hM ?_;clear hM M;try clear hK K)|refine Wb.h fun K hK=>?_|(refine hK _ ?_;clear hK K)|(refine wT ?_ ?_;assumption)|(refine wF ?_ ?_;assumption)|(refine Wy.h ?_ ?_;kernel_rfl)|refine Wq.h ?_ ?_<;>intro h<;>try (exfalso;omega)|refine Wu.h ?_ ?_<;>intro h<;>try simp only [h]|((fail_if_success refine Wz.h ?_);first|simp (disch:=omega) only [↓LD,LA,a0A,seval,LEv,b0k,a0J,Ev.cs,stF,-a0A,List.map_cons,List.map_nil]|(refine And.intro ?_ ?_;omega)|simp only [D.int,D.bool]))
  ·have hz:(a0I s (gt l i)).1=0:=by assumption
   rw [if_pos hz] at hF
   have ho2:=c0U ho hv.2.2.2 hz
   exact Next.mk (i+1,(a0I s (gt l i)).2) (by kernel_rfl) ⟨by dsimp only;omega,ho2,hF⟩ (by dsimp only;omega)
  ·rw [if_neg (by assumption)] at hF
   rw [hF]
   exact RetS.still (ds:=[.ag [jI,jI,jI,jI,jF,jN,jN,jN,jN],D.int (a0I s (gt l i)).1]) (by kernel_rfl) (by kernel_rfl) (.tps (.cons (.ags (.cons .f (.cons .f (.cons .f (.cons .f (.cons .f (.cons .nil (.cons .nil (.cons .nil (.cons .nil .nil)))))))))) (.cons .f .nil))) ⟨rfl,rfl⟩
 ·repeat' (with_reducible first|refine Wx.h ?_|refine Wb.h fun K hK=>?_|(refine hK _ ?_;clear hK K)|(refine wT ?_ ?_;assumption)|(refine wF ?_ ?_;assumption)|(refine Wy.h ?_ ?_;kernel_rfl)|refine Wq.h ?_ ?_<;>intro h<;>try (exfalso;omega)|refine Wu.h ?_ ?_<;>intro h<;>try simp only [h]|((fail_if_success refine Wz.h ?_);first|simp (disch:=omega) only [↓LD,LA,a0A,seval,LEv,stF]|(refine And.intro ?_ ?_;omega)|simp only [D.int,D.bool]))
  rw [List.drop_of_length_le (by omega),a0N] at hF
  rw [hF]
  exact RetS.still (ds:=[stD s,D.int 0]) (by kernel_rfl) (by kernel_rfl) (.tps (.cons a1K (.cons .f .nil))) ⟨rfl,rfl⟩
def r0F:SCode :=
  (jq ([.a 6 (.mv (.c (.f (.v (.pointer none))))),jk 7 0]) (jq ((ap [jm 11 0,.a 12 (.call (kC 28) [(.t 11)])] [jm 10 12,jE 13 0 10,jE 14 1 10,.a 8
 (.alloc 65 [jI,jI,jI,jI,jF,jN,jN,jN,jN]),.n (.store 9 (.t 8) (.t 13)),jm 9 14])) (.seq (jq ((ap [jm 15 9,jb 16 .neq 15 0] (ap [jm 17 16,gM
 18 1 17 false] (ap [jG 19 (.call (kC 114) [(.t 18)]) 17 false] (ap [jG 20 (.unot (.t 19)) 17 false,.a 21 (.pick (.t 17) kT (.t 20)),jm 22 21,gM 23 2
 22 false] (ap [jG 24 (.bin .lss (.t 23) (kI 0)) 22 false] (ap [.a 25 (.pick (.t 22) kT (.t 24)),jm 26 25,gM 27 2 26 false] (ap [jG 28 (.bin .gtr (.t
 27) (kI 1099511627776)) 26 false] [.a 29 (.pick (.t 26) kT (.t 28))])))))))) (jc 29 (jq ([.a 6 (.mv (.c (.f (.v (.pointer none))))),jk 7 1]) .ret)
 .skip)) (.seq (jq ([jm 30 1,jo 31 1 8,jl 32 31,jB 33 .lss 30 32]) (jc 33 (jq ([.a 6 (.mv (.c (.f (.v (.pointer none))))),jk 7 4]) .ret) .skip)) (jq
 ([jL 34 9 8,jm 35 1,jm 36 2,.a 37 (.bld [jI,jI,jI,jI,jF,jN,jN,jN,jN,jI,jI,jN] [(0,9,(.t 34)),(9,1,(.t 35)),(10,1,(.t 36))]),.a
 38 (.box 121 (.t 37)),jm 6 38,jk 7 0]) .ret)))))
theorem w0j:Fn Tryz.prog 72 39 [.t 6,.t 7] r0F:=.of Tryz.func72 (by kernel_rfl)
def m0K:SCode :=
  (jq ([.a 3 (.box 73 (.t 1)),.a 4 (.alloc 73 [jI,jI,jI,jI,jI,jI,(.f (.v (.string ⟨#[]⟩))),jN,jN])]) (jq ([jm 5 0,jn 6 5,jo 7 0 6,jo 8 0 7,
 jl 9 8,jb 10 .add 9 1,jo 11 0 3,.n (.store 1 (.t 11) (.t 10))]) (jq ([jm 12 0,jn 13 12,jo 14 9 13,jl 15 14,jo 16 1 3,.n (.store 1 (.t 16) (.t
 15))]) (.seq (.drw [jm 17 0,jn 18 17,jo 19 10 18,jl 20 19,jm 21 0,jn 22 21,jo 23 0 22,jo 24 2 23,jl 25 24,.a 26 (.mm true (.t 20) (.t 25)),jo
 27 2 3,.n (.store 1 (.t 27) (.t 26))] [0,1,3,7,0,16,48,112,240,511,1023,2047]) (jq ([jL 28 9 3,.n (.store 9 (.t 4) (.t 28))]) .ret)))))
theorem s0l:Fn Tryz.prog 156 29 [.cA 9 4] m0K:=.of Tryz.func156 (by kernel_rfl)
def j0J:SCode :=
  (jq ([.a 3 (.box 73 (.t 1)),jk 4 0]) (jq ((ap [jm 13 0,jL 14 9 3,.a 15 (.call (kC 156) [(.t 13),(.t 14)])] [.a 16 (.bsl 73 9 1 [jI,jI,jI,jI,jI,
 jI,(.f (.v (.string ⟨#[]⟩))),jN,jN] [(0,(.t 15))]),jm 5 16])) (.seq (jq ([jm 17 5,.a 18 (.idx 9 (.t 17) (kI 0)),jo 19 0 18,jl 20 19,jb 21 .gtr
 20 200]) (jc 21 (jq ([jm 22 0,jn 23 22,jo 24 0 23,jL 25 9 24,.a 6 (.alloc 65 [jI,jI,jI,jI,jF,jN,jN,jN,jN]),.n (.store 9 (.t 6) (.t 25))])
 (jq ([jo 26 0 6,.n (.store 1 (.t 26) (kI 1))]) (jq ([jm 27 5,.a 28 (.idx 9 (.t 27) (kI 0)),jo 29 0 28,.n (.store 1 (.t 29) (kI 2))]) (.seq (.seq
 (.drw [jL 31 9 6,jm 32 5,.a 33 (.idx 9 (.t 32) (kI 0)),jL 34 9 33,.a 35 (.call (kC 66) [(.t 31),(.t 34)]),jm 30 35,jE 36 0 30,jE 37 1 30,.a 7
 (.alloc 65 [jI,jI,jI,jI,jF,jN,jN,jN,jN]),.n (.store 9 (.t 7) (.t 36)),jm 8 37] [0,0,2,6,15,31,63,63,0,383,1023]) (jq ([jm 38 8,jb
 39 .neq 38 0]) (jc 39 (jq ([jm 40 8,jm 4 40]) .ret) .skip))) (jq ([jk 4 2]) .ret))))) .skip)) (.seq (.drw [jm 42 0,jn 43 42,jo 44 0 43,jL 45 9 44,
 jm 46 5,.a 47 (.idx 9 (.t 46) (kI 0)),jL 48 9 47,.a 49 (.call (kC 66) [(.t 45),(.t 48)]),jm 41 49,jE 50 0 41,jE 51 1 41,.a 9 (.alloc 65 [jI,
 jI,jI,jI,jF,jN,jN,jN,jN]),.n (.store 9 (.t 9) (.t 50)),jm 10 51] [0,1,3,7,0,16,48,127,255,511,511,0,3071,8191]) (.seq (jq ([jm 52
 10,jb 53 .neq 52 0]) (jc 53 (jq ([jm 54 10,jm 4 54]) .ret) .skip)) (.seq (jq ((ap [jL 55 9 9,.a 56 (.call (kC 157) [(.t 55)])] [jm 11 56])) (jq ([jm
 57 11,jb 58 .neq 57 0]) (jc 58 (jq ([jm 59 0,jn 60 59,jo 61 0 60,jL 62 9 61,.a 12 (.alloc 65 [jI,jI,jI,jI,jF,jN,jN,jN,jN]),.n (.store 9
 (.t 12) (.t 62))]) (jq ([jm 63 0,jL 64 9 9,jn 65 63,jo 66 0 65,.n (.store 9 (.t 66) (.t 64))]) (jq ((ap [jm 67 5,jm 68 0,jm 69 11,.a 70 (.bld
 [jI,jI,jI,jI,jI,jI,(.f (.v (.string ⟨#[]⟩))),jN,jN] [(3,1,(.t 69))]),.a 71 (.call (kC 156) [(.t 68),(.t 70)])] (ap [.a 72 (.bsl 73 9 1 [jI,
 jI,jI,jI,jI,jI,(.f (.v (.string ⟨#[]⟩))),jN,jN] [(0,(.t 71))]),.a 73 (.app 73 9 112 (.t 67) (.t 72))] [jm 5 73]))) (jq ([jm 74 0,jL 75 9 12,
 jn 76 74,jo 77 0 76,.n (.store 9 (.t 77) (.t 75))]) (.seq (jq ([jm 78 5,.a 79 (.idx 9 (.t 78) (kI 1)),jo 80 0 79,jl 81 80,jb 82 .gtr 81 200]) (jc
 82 (jq ([jk 4 2]) .ret) .skip)) (.seq (.drw [jL 84 9 9,jm 85 5,.a 86 (.idx 9 (.t 85) (kI 1)),jL 87 9 86,.a 88 (.call (kC 66) [(.t 84),(.t 87)]),
 jm 83 88,jE 89 0 83,jE 90 1 83,.n (.store 9 (.t 9) (.t 89)),jm 10 90] [0,0,2,6,15,31,63,63,127,511]) (jq ([jm 91 10,jb 92 .neq 91 0]) (jc
 92 (jq ([jm 93 10,jm 4 93]) .ret) .skip)))))))) .skip))) (jq ([jm 94 0,jL 95 9 9,jn 96 94,jo 97 0 96,.n (.store 9 (.t 97) (.t 95))]) (jq ((ap [jm
 98 0,.a 99 (.bsl 73 9 0 [] []),jm 100 0,jn 101 100,jo 102 11 101,jl 103 102,.a 104 (.app 73 9 112 (.t 99) (.t 103))] (ap [jm 105 5,.a 106 (.app
 73 9 112 (.t 104) (.t 105))] [jn 107 98,jo 108 11 107,.n (.store 1 (.t 108) (.t 106))]))) (jq ([jk 4 0]) .ret)))))))))
theorem q0D:Fn Tryz.prog 132 109 [.t 4] j0J:=.of Tryz.func132 (by kernel_rfl)
def j0V:SCode :=
  (jq ([jk 4 0]) (.seq (jq ([jm 6 0,jn 7 6,jo 8 0 7,jo 9 0 8,jl 10 9,jb 11 .gtr 10 0]) (jc 11 (jq ([jk 4 13]) .ret) .skip)) (.seq (jq ((ap [jm 12 1,
 .a 13 (.call (kC 104) [(.t 12)])] [jm 5 13])) (jq ([jm 14 5,jb 15 .neq 14 0]) (jc 15 (jq ([jm 16 5,jm 4 16]) .ret) .skip))) (jq ((ap [jm 17 0,jm 18
 1,.a 19 (.bld [jI,jI,jI,jI,jI,jI,(.f (.v (.string ⟨#[]⟩))),jN,jN] [(3,1,(kI 1)),(8,1,(.t 18))]),.a 20 (.call (kC 132) [(.t 17),(.t
 19)])] [jm 4 20])) .ret))))
theorem r0o:Fn Tryz.prog 89 21 [.t 4] j0V:=.of Tryz.func89 (by kernel_rfl)
def l0d:SCode :=
  (jq ([jk 2 0]) (.seq (.block 0 (jq ((ap [jm 4 0,jn 5 4,jo 6 0 5,jo 7 0 6,jl 8 7,jb 9 .eql 8 0] [jm 3 9])) (jc 3 (jq ([jk 2 3]) .ret) (jq ((ap [jm
 11 0,jn 12 11,jo 13 0 12,jo 14 3 13,jl 15 14,jb 16 .neq 15 0] [jm 10 16])) (jc 10 (jq ([jk 2 12]) .ret) .skip))))) (jq ([jk 2 0]) .ret)))
theorem s0u:Fn Tryz.prog 153 17 [.t 2] l0d:=.of Tryz.func153 (by kernel_rfl)
def j0L:SCode :=
  (jq ([jk 2 0,jk 3 0,jk 4 0]) (.seq (jq ((ap [jm 9 0,.a 10 (.call (kC 153) [(.t 9)])] [jm 5 10])) (jq ([jm 11 5,jb 12 .neq 11 0]) (jc 12 (jq ([jm 13
 5,jk 2 0,jk 3 0,jm 4 13]) .ret) .skip))) (jq ((ap [jm 14 0,jn 15 14,jo 16 0 15,jL 17 9 16,.a 18 (.call (kC 147) [(.t 17)])] [jm 6 18])) (.seq
 (jq ([jm 19 6,je 20 19,jb 21 .eql 20 0]) (jc 21 (jq ([jk 2 0,jk 3 0,jk 4 3]) .ret) .skip)) (.seq (.drw [jm 22 0,jn 23 22,jo 24 0 23,jo 25 6 24,
 jl 26 25,jm 27 6,.a 28 (.idx 1 (.t 27) (kI 0)),jl 29 28,jx 30 4 26 29,jo 31 1 30,jl 32 31,jb 33 .add 32 1,jm 7 33] [0,1,3,7,15,0,32,96,
 255,511,1023,2047,4095]) (.seq (jq ((ap [jm 34 0,jm 35 6,.a 36 (.idx 1 (.t 35) (kI 0)),jl 37 36,jm 38 7,.a 39 (.bld [jI,jI,jI,jI,jI,jI,
 (.f (.v (.string ⟨#[]⟩))),jN,jN] [(3,1,(kI 2)),(4,1,(.t 37)),(5,1,(.t 38))]),.a 40 (.call (kC 132) [(.t 34),(.t 39)])] [jm 8 40])) (jq ([jm
 41 8,jb 42 .neq 41 0]) (jc 42 (jq ([jm 43 8,jk 2 0,jk 3 0,jm 4 43]) .ret) .skip))) (jq ([jm 44 6,.a 45 (.idx 1 (.t 44) (kI 0)),jl 46 45,jm 47 7,
 jm 2 46,jm 3 47,jk 4 0]) .ret)))))))
theorem p0Y:Fn Tryz.prog 115 48 [.t 2,.t 3,.t 4] j0L:=.of Tryz.func115 (by kernel_rfl)
def g0p:SCode :=
  (jq ([jk 10 0]) (.seq (jq ((ap [jm 12 0,.a 13 (.call (kC 153) [(.t 12)])] [jm 11 13])) (jq ([jm 14 11,jb 15 .neq 14 0]) (jc 15 (jq ([jm 16 11,jm 10
 16]) .ret) .skip))) (.seq (jq ((ap [jm 17 1,jb 18 .lss 17 0] (ap [jm 19 18,gM 20 1 19 false] (ap [gM 21 0 19 false,gN 22 21 19 false,gO 23 0 22 19
 false,gO 24 6 23 19 false,gL 25 24 19 false,jG 26 (.slen (.t 25)) 19 false,jG 27 (.bin .geq (.t 20) (.t 26)) 19 false] (ap [.a 28 (.pick (.t 19) kT
 (.t 27)),jm 29 28,gM 30 4 29 false] (ap [jG 31 (.slen (.t 30)) 29 false,jG 32 (.bin .gtr (.t 31) (kI 40)) 29 false] (ap [.a 33 (.pick (.t 29) kT (.t
 32)),jm 34 33,gM 35 3 34 false] (ap [jG 36 (.unot (.t 35)) 34 false,gM 37 36 34 false,gM 38 4 37 true] (ap [jG 39 (.slen (.t 38)) 37 true,jG 40
 (.bin .gtr (.t 39) (kI 0)) 37 true] (ap [jG 41 (.pick (.t 37) (.t 40) kF) 34 false] [.a 42 (.pick (.t 34) kT (.t 41))])))))))))) (jc 42 (jq ([jk 10 1])
 .ret) .skip)) (.seq (jq ((ap [jm 43 0,jn 44 43,jo 45 0 44,jo 46 6 45,jl 47 46,jm 48 1,jx 49 4 47 48,jo 50 0 49,jl 51 50,jb 52 .neq 51 1] (ap
 [jm 53 52,gM 54 0 53 false] (ap [gN 55 54 53 false,gO 56 0 55 53 false,gO 57 6 56 53 false,gL 58 57 53 false,gM 59 1 53 false,jG 60 (.idx 4 (.t
 58) (.t 59)) 53 false,gO 61 1 60 53 false,gL 62 61 53 false,gM 63 2 53 false,jG 64 (.bin .neq (.t 62) (.t 63)) 53 false] [.a 65 (.pick (.t 53) kT
 (.t 64))])))) (jc 65 (jq ([jk 10 4]) .ret) .skip)) (.seq (jq ([jm 66 3]) (jc 66 (jq ((ap [jm 67 0,jm 68 1,jm 69 2,jm 70 4,.a 71 (.bld [jI,jI,jI,
 jI,jI,jI,(.f (.v (.string ⟨#[]⟩))),jN,jN] [(3,1,(kI 3)),(4,1,(.t 68)),(5,1,(.t 69)),(7,1,(.t 70))]),.a 72 (.call (kC 132) [(.t 67),
 (.t 71)])] [jm 10 72])) .ret) .skip)) (jq ((ap [jm 73 0,jm 74 1,jm 75 2,.a 76 (.bld [jI,jI,jI,jI,jI,jI,(.f (.v (.string ⟨#[]⟩))),jN,jN] [(3,
 1,(kI 4)),(4,1,(.t 74)),(5,1,(.t 75))]),.a 77 (.call (kC 132) [(.t 73),(.t 76)])] [jm 10 77])) .ret))))))
theorem o0V:Fn Tryz.prog 116 78 [.t 10] g0p:=.of Tryz.func116 (by kernel_rfl)
def p0P:SCode :=
  (jq ([jk 6 0]) (.seq (jq ((ap [jm 8 0,.a 9 (.call (kC 153) [(.t 8)])] [jm 7 9])) (jq ([jm 10 7,jb 11 .neq 10 0]) (jc 11 (jq ([jm 12 7,jm 6 12])
 .ret) .skip))) (.seq (jq ((ap [jm 13 1,.a 14 (.call (kC 133) [(.t 13)])] (ap [.a 15 (.unot (.t 14)),jm 16 15,gM 17 2 16 false] (ap [jG 18 (.bin .lss
 (.t 17) (kI 1)) 16 false] (ap [.a 19 (.pick (.t 16) kT (.t 18)),jm 20 19,gM 21 2 20 false] (ap [jG 22 (.bin .gtr (.t 21) (kI 1048576)) 20 false] [.a
 23 (.pick (.t 20) kT (.t 22))])))))) (jc 23 (jq ([jk 6 1]) .ret) .skip)) (jq ((ap [jm 24 0,jm 25 1,jm 26 2,.a 27 (.bld [jI,jI,jI,jI,jI,jI,(.f
 (.v (.string ⟨#[]⟩))),jN,jN] [(3,1,(kI 5)),(6,1,(.t 25)),(5,1,(.t 26))]),.a 28 (.call (kC 132) [(.t 24),(.t 27)])] [jm 6 28])) .ret))))
theorem x0D:Fn Tryz.prog 118 29 [.t 6] p0P:=.of Tryz.func118 (by kernel_rfl)
def h0T:SCode :=
  (jq ([.a 6 (.mv kF),jk 7 0]) (.seq (jq ([jm 9 0,jn 10 9,jo 11 0 10,jo 12 0 11,jl 13 12,jb 14 .eql 13 0]) (jc 14 (jq ([.a 6 (.mv kF),jk 7 3])
 .ret) .skip)) (.seq (jq ((ap [jm 15 1,.a 16 (.call (kC 133) [(.t 15)])] (ap [.a 17 (.unot (.t 16)),jm 18 17,gM 19 2 18 false] (ap [jG 20 (.slen (.t
 19)) 18 false,jG 21 (.bin .gtr (.t 20) (kI 40)) 18 false] [.a 22 (.pick (.t 18) kT (.t 21))])))) (jc 22 (jq ([.a 6 (.mv kF),jk 7 1]) .ret) .skip))
 (.seq (jq ([jm 23 0,jn 24 23,jo 25 0 24,jL 26 9 25,jm 27 1,.a 28 (.call (kC 30) [(.t 26),(.t 27)])]) (jc 28 (jq ([.a 6 (.mv kF),jk 7 0]) .ret)
 .skip)) (.seq (jq ([jm 29 0,jn 30 29,jo 31 0 30,jo 32 3 31,jl 33 32,jb 34 .neq 33 0]) (jc 34 (jq ([.a 6 (.mv kF),jk 7 12]) .ret) .skip)) (.seq
 (jq ((ap [jm 35 0,jm 36 1,jm 37 2,.a 38 (.bld [jI,jI,jI,jI,jI,jI,(.f (.v (.string ⟨#[]⟩))),jN,jN] [(3,1,(kI 7)),(6,1,(.t 36)),(7,1,
 (.t 37))]),.a 39 (.call (kC 132) [(.t 35),(.t 38)])] [jm 8 39])) (jq ([jm 40 8,jb 41 .neq 40 0]) (jc 41 (jq ([jm 42 8,.a 6 (.mv kF),jm 7 42])
 .ret) .skip))) (jq ([.a 6 (.mv kT),jk 7 0]) .ret)))))))
theorem n0q:Fn Tryz.prog 91 43 [.t 6,.t 7] h0T:=.of Tryz.func91 (by kernel_rfl)
def g0s:SCode :=
  (jq ([jk 2 0]) (.seq (jq ((ap [jm 4 0,.a 5 (.call (kC 153) [(.t 4)])] [jm 3 5])) (jq ([jm 6 3,jb 7 .neq 6 0]) (jc 7 (jq ([jm 8 3,jm 2 8]) .ret)
 .skip))) (jq ((ap [jm 9 0,.a 10 (.bld [jI,jI,jI,jI,jI,jI,(.f (.v (.string ⟨#[]⟩))),jN,jN] [(3,1,(kI 8))]),.a 11 (.call (kC 132) [(.t 9),
 (.t 10)])] [jm 2 11])) .ret)))
theorem o0T:Fn Tryz.prog 120 12 [.t 2] g0s:=.of Tryz.func120 (by kernel_rfl)
def d0o:SCode :=
  (jq ([jk 2 0]) (.seq (jq ((ap [jm 4 0,.a 5 (.call (kC 153) [(.t 4)])] [jm 3 5])) (jq ([jm 6 3,jb 7 .neq 6 0]) (jc 7 (jq ([jm 8 3,jm 2 8]) .ret)
 .skip))) (jq ((ap [jm 9 0,.a 10 (.bld [jI,jI,jI,jI,jI,jI,(.f (.v (.string ⟨#[]⟩))),jN,jN] [(3,1,(kI 12))]),.a 11 (.call (kC 132) [(.t 9),
 (.t 10)])] [jm 2 11])) .ret)))
theorem h0c:Fn Tryz.prog 121 12 [.t 2] d0o:=.of Tryz.func121 (by kernel_rfl)
def m0f:SCode :=
  (jq ([jk 2 0]) (jq ([jk 3 0]) (.seq (.drw [jm 10 0,jn 11 10,jo 12 10 11,jl 13 12,jm 14 0,jn 15 14,jo 16 0 15,jo 17 2 16,jl 18 17,.a 19 (.mm
 true (.t 13) (.t 18)),jm 4 19] [0,1,3,7,0,16,48,112,240,511,1023]) (.seq (jq ([jk 5 0]) (.block 0 (.loop (.seq (jq ((ap [jm 20 5,jm 21 0,
 jn 22 21,jo 23 0 22,jo 24 6 23,jl 25 24,je 26 25,jB 27 .lss 20 26] (ap [jm 28 27,gM 29 0 28 true] (ap [gN 30 29 28 true,gO 31 0 30 28 true,gO
 32 3 31 28 true,gL 33 32 28 true,jG 34 (.bin .eql (.t 33) (kI 0)) 28 true] [.a 35 (.pick (.t 28) (.t 34) kF)])))) (jc 35 .skip (.exit 0))) (.seq
 (.block 1 (jq ([jm 38 0,jn 39 38,jo 40 0 39,jo 41 6 40,jl 42 41,jm 43 5,jx 44 4 42 43,jL 45 4 44,.a 6 (.alloc 158 [jI,jI,jI,jN]),.n (.store
 4 (.t 6) (.t 45))]) (.seq (jq ((ap [jo 46 0 6,jl 47 46,jb 48 .neq 47 1] (ap [jm 49 48,gO 50 2 6 49 false] (ap [gL 51 50 49 false,gM 52 4 49 false,
 jG 53 (.bin .gtr (.t 51) (.t 52)) 49 false] [.a 54 (.pick (.t 49) kT (.t 53))])))) (jc 54 (.exit 1) .skip)) (.seq (jq ((ap [jm 55 0,jm 56 5,jo 57 1
 6,jl 58 57,.a 59 (.bld [jI,jI,jI,jI,jI,jI,(.f (.v (.string ⟨#[]⟩))),jN,jN] [(3,1,(kI 4)),(4,1,(.t 56)),(5,1,(.t 58))]),.a 60 (.call
 (kC 132) [(.t 55),(.t 59)])] [jb 61 .neq 60 0])) (jc 61 (jq ([jm 62 3,jm 2 62]) .ret) .skip)) (.ops [jm 63 3,jb 64 .add 63 1,jm 3 64]))))) (.ops
 [jm 36 5,jb 37 .add 36 1,jm 5 37])))))) (.seq (.block 2 (.loop (.seq (jq ([jm 65 0,jn 66 65,jo 67 0 66,jo 68 3 67,jl 69 68,jb 70 .eql 69 0]) (jc
 70 .skip (.exit 2))) (.block 3 (jq ([.a 7 (.mv (kI (-1)))]) (.seq (jq ([jk 8 0]) (.block 4 (.loop (.seq (jq ([jm 71 8,jm 72 0,jn 73 72,jo 74 0 73,
 jo 75 7 74,jl 76 75,je 77 76,jB 78 .lss 71 77]) (jc 78 .skip (.exit 4))) (.seq (.block 5 (jq ([jm 81 0,jn 82 81,jo 83 0 82,jo 84 7 83,jl 85 84,
 jm 86 8,jx 87 3 85 86,jL 88 3 87,.a 9 (.alloc 180 [(.f (.v (.string ⟨#[]⟩))),jI,jF]),.n (.store 3 (.t 9) (.t 88))]) (.seq (jq ((ap [jo 89 2 9,jl
 90 89,jm 91 90,gO 92 1 9 91 false] (ap [gL 93 92 91 false,gM 94 4 91 false,jG 95 (.bin .gtr (.t 93) (.t 94)) 91 false] [.a 96 (.pick (.t 91) kT (.t
 95))]))) (jc 96 (.exit 5) .skip)) (.seq (.drw [jm 97 7,jb 98 .lss 97 0,jm 99 98,gO 100 1 9 99 false,gL 101 100 99 false,gM 102 0 99 false,gN 103
 102 99 false,gO 104 0 103 99 false,gO 105 7 104 99 false,gL 106 105 99 false,gM 107 7 99 false,jG 108 (.idx 3 (.t 106) (.t 107)) 99 false,gO 109
 1 108 99 false,gL 110 109 99 false,jG 111 (.bin .lss (.t 101) (.t 110)) 99 false,.a 112 (.pick (.t 99) kT (.t 111)),jm 113 112,gO 114 1 9 113
 false,gL 115 114 113 false,gM 116 0 113 false,gN 117 116 113 false,gO 118 0 117 113 false,gO 119 7 118 113 false,gL 120 119 113 false,gM 121 7
 113 false,jG 122 (.idx 3 (.t 120) (.t 121)) 113 false,gO 123 1 122 113 false,gL 124 123 113 false,jG 125 (.bin .eql (.t 115) (.t 124)) 113 false,
 gM 126 125 113 false,gO 127 0 9 126 true,gL 128 127 126 true,gM 129 0 126 true,gN 130 129 126 true,gO 131 0 130 126 true,gO 132 7 131 126 true,
 gL 133 132 126 true,gM 134 7 126 true,jG 135 (.idx 3 (.t 133) (.t 134)) 126 true,gO 136 0 135 126 true,gL 137 136 126 true,jG 138 (.bin .lss (.t
 128) (.t 137)) 126 true,jG 139 (.pick (.t 126) (.t 138) kF) 113 false,.a 140 (.pick (.t 113) kT (.t 139))] [0,1,3,7,15,7,39,103,231,487,7,
 2023,4071,8167,16383,32767,65535,131071,262143,131071,655359,1703935,3801087,7995391,131071,33161215,66715647,133824511,268435455,
 536870911,1073741823,2147483647,1073741823,5368709119,13958643711,31138512895,65498251263,1073741823,271656681471,546534588415,
 1096290402303,2199023255551,4398046511103,8796093022207]) (jc 140 (.ops [jm 141 8,jm 7 141]) .skip))))) (.ops [jm 79 8,jb 80 .add 79 1,jm 8
 80])))))) (.seq (jq ((ap [jm 142 7,jb 143 .lss 142 0] (ap [jm 144 143,gM 145 0 144 false] (ap [gM 146 0 144 false,gN 147 146 144 false,gO 148 0 147
 144 false,gO 149 7 148 144 false,gL 150 149 144 false,gM 151 7 144 false,jG 152 (.idx 3 (.t 150) (.t 151)) 144 false,gO 153 0 152 144 false,gL
 154 153 144 false,jG 155 (.bld [jI,jI,jI,jI,jI,jI,(.f (.v (.string ⟨#[]⟩))),jN,jN] [(3,1,(kI 6)),(6,1,(.t 154))]) 144 false,jG 156
 (.call (kC 132) [(.t 145),(.t 155)]) 144 false] (ap [jG 157 (.bin .neq (.t 156) (kI 0)) 144 false] [.a 158 (.pick (.t 144) kT (.t 157))]))))) (jc 158
 (jq ([jm 159 3,jm 2 159]) .ret) .skip)) (.ops [jm 160 3,jb 161 .add 160 1,jm 3 161])))))))) (jq ([jm 162 3,jm 2 162]) .ret))))))
theorem s0j:Fn Tryz.prog 119 163 [.t 2] m0f:=.of Tryz.func119 (by kernel_rfl)
end Go.Proofs.YthjgmldnegaaiaaGreatDoor.Mir
