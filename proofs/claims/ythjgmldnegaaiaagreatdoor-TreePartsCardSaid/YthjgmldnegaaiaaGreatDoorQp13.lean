/- Lemmas for the proof. No condition. -/
import Derived.Test.YthjgmldnegaaiaaGreatDoorQp12
set_option linter.unusedVariables false
set_option linter.unusedSimpArgs false
namespace Go.Proofs.YthjgmldnegaaiaaGreatDoor.Mir
open Go Go.RowKit
set_option maxHeartbeats 4000000
theorem HS.cutK {P:Program}{n:Nat}{c:SCode}{s:St}{Q:Out→St→Prop}(i:Nat){α:Type}(st:α→St)(p:α→Prop)
  (h1:∀ K:Out→St→Prop,(∀ y,p y→∀ s',View P n s' (st y)→K (.exit i) s')→(∀ s',Q .ret s'→K .ret s')→HS P n c s K) (h2:∀ y,p y→∀ s',View P n s' (st y)→Q (.exit i) s'):HS P n c s Q:=h1 Q h2 fun _ h=>h
theorem l0S {now:Int}:∀ {f g:Nat} {p:Pn} {n:Int},unf p.s.tms<f→unf p.s.tms<g→f0n now f p n=f0n now g p n
 | 0,_,_,_,h,_=>absurd h (by omega)
 | _,0,_,_,_,h=>absurd h (by omega)
 | f+1,g+1,p,n,hf,hg=>by
  rw [f0n,f0n]
  by_cases a1:p.s.closed≠0
  ·rw [if_pos a1,if_pos a1]
  rw [if_neg a1,if_neg a1]
  by_cases a2:d0X now p.s.tms 0 (-1) p.s.tms<0
  ·rw [if_pos a2,if_pos a2]
  rw [if_neg a2,if_neg a2]
  by_cases a3:(a0P p ⟨0,0,0,6,0,0,(gt p.s.tms (d0X now p.s.tms 0 (-1) p.s.tms).toNat).name,[],[]⟩).1≠0
  ·rw [if_pos a3,if_pos a3]
  rw [if_neg a3,if_neg a3]
  have:=m0J (Decidable.not_not.1 a3)
  exact l0S (by omega) (by omega)
set_option maxRecDepth 100000 in
theorem w0y (b:S12)(p:Pn)(h:PnOk b p):Con Tryz.prog 119 [.pt 0 0] [pnB p] fun r H'=>r=D.int (f0o p).1∧H'=[pnB (f0o p).2]:=by
  suffices hh:∀ Q:D→List Row→Prop,(∀ r H',r=D.int (f0o p).1→H'=[pnB (f0o p).2]→Q r H')→Con Tryz.prog 119 [.pt 0 0] [pnB p] Q from hh _ fun _ _ h1 h2=>⟨h1,h2⟩
  intro Q hQ
  unfold f0o at hQ
  refine Con.walk good t0R (by simp) ?_
  unfold n0D
  simp only [a0I,pnB,pnD]
  have hnl:=h.ok.wk.fit.fit.nodes
  generalize hN:max p.now p.s.time=N at hQ
  repeat' (with_reducible first|refine Wx.h ?_|refine We.h fun K hK=>?_|(refine hK _ _ _ _ ?_;clear hK K;try clear hM M)|refine Wb.h fun K hK=>?_|(refine hK _ ?_;clear hK K)|(refine Wy.h ?_ ?_;kernel_rfl)|((fail_if_success refine Wz.h ?_);simp (disch:=omega) only [↓LD,LA,a0A,seval,hN]))
  refine HS.cutK 0 (fun x:Pn × Int=>⟨frm 163 [(0,.pt 0 0),(3,D.int x.2),(4,D.int N)],[pnB x.1],[]⟩) (fun x=>PnOk b x.1∧0≤x.2∧x.2≤1000000∧d0g N p.s.nodes.length 0 p 0=(x.2,x.1,false)) ?_ ?_
  · intro K hx hr
    refine HS.loopG [0,3,4,5] (fun x:Nat × Pn × Int=>⟨frm 163 [(0,.pt 0 0),(3,D.int x.2.2),(4,D.int N),(5,D.int x.1)],[pnB x.2.1],[]⟩)
      (fun x=>x.1≤p.s.nodes.length∧x.2.1.s.nodes.length=p.s.nodes.length∧PnOk b x.2.1∧0≤x.2.2∧x.2.2≤x.1∧d0g N p.s.nodes.length 0 p 0=d0g N (p.s.nodes.length-x.1) x.1 x.2.1 x.2.2) (fun x=>p.s.nodes.length-x.1) (0,p,0) (by kernel_rfl) ⟨Nat.zero_le _,rfl,h,by simp,by simp,rfl⟩ ?_
    rintro ⟨i,⟨s,ver,now,out⟩,n⟩ ⟨hi,hl,ho,hn0,hn1,hF⟩
    dsimp only at hi hl ho hn0 hn1 hF
    by_cases hil:i<p.s.nodes.length
    · rw [show p.s.nodes.length-i=(p.s.nodes.length-(i+1))+1 by omega,d0g] at hF
      dsimp only at hF
      have hok:=ho.ok
      have hid:s.id≠0:=fun hh=>by have:=hok.wk.zero.2 hh;dsimp only at this;omega
      have hlen:=ho.len
      haveI:Kn (Ok12 s):=⟨hok⟩
      haveI:Kn (out.length≤1000000):=⟨by dsimp only at hlen;omega⟩
      have hw:=a0y (e:=⟨0,0,0,4,i,(gt s.nodes i).tr,[],[],[]⟩) ho (b0q (by simp) (by simp) c0N)
      have hwl:=w0u (e:=⟨0,0,0,4,i,(gt s.nodes i).tr,[],[],[]⟩) ho (b0q (by simp) (by simp) c0N) hid
      repeat' (with_reducible first|refine Wx.h ?_|refine Wb.h fun K hK=>?_|(refine hK _ ?_;clear hK K)|refine Wq.h ?_ ?_<;>intro h<;>try (exfalso;omega)|((fail_if_success refine Wz.h ?_);first|simp (disch:=omega) only [↓LD,LA,a0A,seval,LSt,pnB,pnD,c0p,a0i,Nn.cs,-a0A,List.map_cons,List.map_nil]|(refine And.intro ?_ ?_;omega)|fail))
      · rw [if_neg (fun hh=>hh (show s.closed=0 by assumption)),if_neg (fun hh=>hh (by assumption)),if_pos (by assumption)] at hF
        exact Next.mk (i+1,⟨s,ver,now,out⟩,n) (by kernel_rfl) ⟨by omega,hl,ho,hn0,by dsimp only;omega,hF⟩ (by dsimp only;omega)
      · have hz:(a0P ⟨s,ver,now,out⟩ ⟨0,0,0,4,i,(gt s.nodes i).tr,[],[],[]⟩).1=0:=by assumption
        rw [if_neg (fun hh=>hh (show s.closed=0 by assumption)),if_neg (fun hh=>hh (by assumption)),if_neg (by assumption),if_neg (fun hh=>hh hz)] at hF
        exact Next.mk (i+1,(a0P ⟨s,ver,now,out⟩ ⟨0,0,0,4,i,(gt s.nodes i).tr,[],[],[]⟩).2,n+1) (by kernel_rfl) ⟨by omega,hwl.trans hl,hw,by dsimp only;omega,by dsimp only;omega,hF⟩ (by dsimp only;omega)
      · have hz:(a0P ⟨s,ver,now,out⟩ ⟨0,0,0,4,i,(gt s.nodes i).tr,[],[],[]⟩).1≠0:=by assumption
        rw [if_neg (fun hh=>hh (show s.closed=0 by assumption)),if_neg (fun hh=>hh (by assumption)),if_neg (by assumption),if_pos hz] at hF
        rw [hF,if_pos rfl] at hQ
        refine hr _ ?_
        repeat' (with_reducible first|refine Wx.h ?_|fail)
        exact end1 rfl rfl (by kernel_rfl) .f (hQ _ _ rfl rfl)
      · rw [if_neg (fun hh=>hh (show s.closed=0 by assumption)),if_pos (by assumption)] at hF
        exact Next.mk (i+1,⟨s,ver,now,out⟩,n) (by kernel_rfl) ⟨by omega,hl,ho,hn0,by dsimp only;omega,hF⟩ (by dsimp only;omega)
      · rw [if_pos (show s.closed≠0 by assumption)] at hF
        exact hx (⟨s,ver,now,out⟩,n) ⟨ho,hn0,by dsimp only;omega,hF⟩ _ (View.sweep (keep:=[0,3,4]) (by kernel_rfl))
    · rw [show p.s.nodes.length-i=0 by omega,d0g] at hF
      repeat' (with_reducible first|refine Wx.h ?_|refine Wb.h fun K hK=>?_|(refine hK _ ?_;clear hK K)|refine Wq.h ?_ ?_<;>intro h<;>try (exfalso;omega)|((fail_if_success refine Wz.h ?_);simp (disch:=omega) only [↓LD,LA,a0A,seval,LSt,pnB,pnD]))
      exact hx (⟨s,ver,now,out⟩,n) ⟨ho,hn0,by dsimp only;omega,hF⟩ _ (View.sweep (keep:=[0,3,4]) (by kernel_rfl))
  · rintro ⟨q,n⟩ ⟨ho,hn0,hn1,hF⟩ s' hv
    refine e0G ?_
    refine n0d ?_
    refine HS.view hv ?_
    clear hv
    dsimp only at ho hn0 hn1 hF ⊢
    rw [hF,if_neg (by simp)] at hQ
    dsimp only at hQ
    clear hF
    generalize hLL:f0n N (unf q.s.tms+1) q n=LL at hQ
    repeat' (with_reducible first|refine Wx.h ?_|fail)
    have hu0:=ho.ok.tms
    have hu1:∀ l:List Tm,unf l≤l.length:=fun l=>List.countP_le_length
    have hu2:=hu1 q.s.tms
    refine HS.loopG [0,3,4] (fun x:Pn × Int=>⟨frm 163 [(0,.pt 0 0),(3,D.int x.2),(4,D.int N)],[pnB x.1],[]⟩)
      (fun x=>PnOk b x.1∧0≤x.2∧x.2+unf x.1.s.tms≤2000000∧LL=f0n N (unf x.1.s.tms+1) x.1 x.2) (fun x=>unf x.1.s.tms) (q,n) (by kernel_rfl) ⟨ho,hn0,by dsimp only;omega,hLL.symm⟩ ?_
    clear ho hn0 hn1 hu0 hu2 hLL
    rintro ⟨⟨s,ver,now,out⟩,m⟩ ⟨ho,hn0,hn1,hF⟩
    dsimp only at ho hn0 hn1 hF
    have hok:=ho.ok
    dsimp only at hok
    have hlen:=ho.len
    haveI:Kn (Ok12 s):=⟨hok⟩
    haveI:Kn (out.length≤1000000):=⟨by dsimp only at hlen;omega⟩
    have htl:=hok.tms
    rw [f0n] at hF
    repeat' (with_reducible first|refine Wx.h ?_|refine Wb.h fun K hK=>?_|(refine hK _ ?_;clear hK K)|refine Wq.h ?_ ?_<;>intro h|((fail_if_success refine Wz.h ?_);simp (disch:=omega) only [↓LD,LA,a0A,seval,LSt,pnB,pnD]))
    rotate_left
    · rw [if_pos (show s.closed≠0 by assumption)] at hF
      rw [hF] at hQ
      exact end1 rfl rfl (by kernel_rfl) .f (hQ _ _ rfl rfl)
    have hcl:s.closed=0:=by assumption
    rw [if_neg (fun hh=>hh hcl)] at hF
    refine HS.loopG [0,3,4,7,8] (fun x:Nat × Int=>⟨frm 163 [(0,.pt 0 0),(3,D.int m),(4,D.int N),(7,D.int x.2),(8,D.int x.1)],[pnB ⟨s,ver,now,out⟩],[]⟩)
      (fun x=>x.1≤s.tms.length ∧ -1≤x.2∧x.2<x.1∧d0X N s.tms 0 (-1) s.tms=d0X N s.tms x.1 x.2 (s.tms.drop x.1)) (fun x=>s.tms.length-x.1) (0,-1) (by kernel_rfl) ⟨Nat.zero_le _,by simp,by simp,rfl⟩ ?_
    rintro ⟨j,k⟩ ⟨hj,hk0,hk1,hP⟩
    dsimp only at hj hk0 hk1 hP
    by_cases hjl:j<s.tms.length
    · rw [a0H hjl,d0X] at hP
      have hbT:befT (gt s.tms j) (gt s.tms k.toNat)=true↔(gt s.tms j).due<(gt s.tms k.toNat).due∨((gt s.tms j).due=(gt s.tms k.toNat).due∧Op.bytesLess (BB (gt s.tms j).name).toList (BB (gt s.tms k.toNat).name).toList=true):=by simp only [befT,f1v,Bool.or_eq_true,Bool.and_eq_true,decide_eq_true_eq]
      repeat' (with_reducible first|refine Wx.h ?_|refine We.h fun K hK=>?_|refine Wd.h fun K M hK hM=>?_|(refine hK _ _ _ _ ?_;clear hK K;try clear hM M)|(refine hM ?_;clear hM M;try clear hK K)|refine Wb.h fun K hK=>?_|(refine hK _ ?_;clear hK K)|(refine Wy.h ?_ ?_;kernel_rfl)|refine Wq.h ?_ ?_<;>intro h<;>try (exfalso;omega)|refine Wu.h ?_ ?_<;>intro h<;>try simp only [h]|((fail_if_success refine Wz.h ?_);first|simp (disch:=omega) only [↓LD,LA,a0A,seval,LSt,pnB,pnD,h0U,e0b,f0y,k0B,Tm.cs,-a0A,List.map_cons,List.map_nil]|(refine And.intro ?_ ?_;omega)|fail))
      all_goals first
        | (rw [if_pos (show (gt s.tms j).fired=true by assumption)] at hP
           exact Next.mk (j+1,k) (by kernel_rfl) ⟨by dsimp only;omega,hk0,by dsimp only;omega,hP⟩ (by dsimp only;omega))
        | (rw [if_neg (by rw [show (gt s.tms j).fired=false by assumption];simp),if_pos (show N<(gt s.tms j).due by assumption)] at hP
           exact Next.mk (j+1,k) (by kernel_rfl) ⟨by dsimp only;omega,hk0,by dsimp only;omega,hP⟩ (by dsimp only;omega))
        | (rw [if_neg (by rw [show (gt s.tms j).fired=false by assumption];simp),if_neg (show ¬ N<(gt s.tms j).due by assumption),if_pos (.inl (show k<0 by assumption))] at hP
           exact Next.mk (j+1,(j:Int)) (by kernel_rfl) ⟨by dsimp only;omega,by dsimp only;omega,by dsimp only;omega,hP⟩ (by dsimp only;omega))
        | (rw [if_neg (by rw [show (gt s.tms j).fired=false by assumption];simp),if_neg (show ¬ N<(gt s.tms j).due by assumption),if_pos (.inr (hbT.2 (.inl (show (gt s.tms j).due<(gt s.tms k.toNat).due by assumption))))] at hP
           exact Next.mk (j+1,(j:Int)) (by kernel_rfl) ⟨by dsimp only;omega,by dsimp only;omega,by dsimp only;omega,hP⟩ (by dsimp only;omega))
        | (rw [if_neg (by rw [show (gt s.tms j).fired=false by assumption];simp),if_neg (show ¬ N<(gt s.tms j).due by assumption),if_pos (.inr (hbT.2 (.inr ⟨show (gt s.tms j).due=(gt s.tms k.toNat).due by assumption,show Op.bytesLess (BB (gt s.tms j).name).toList (BB (gt s.tms k.toNat).name).toList=true by assumption⟩)))] at hP
           exact Next.mk (j+1,(j:Int)) (by kernel_rfl) ⟨by dsimp only;omega,by dsimp only;omega,by dsimp only;omega,hP⟩ (by dsimp only;omega))
        | (rw [if_neg (by rw [show (gt s.tms j).fired=false by assumption];simp),if_neg (show ¬ N<(gt s.tms j).due by assumption),if_neg (fun hh=>hh.elim (show ¬ k<0 by assumption) (fun hb=>(hbT.1 hb).elim (show ¬ (gt s.tms j).due<(gt s.tms k.toNat).due by assumption) (fun he=>(show ¬ (gt s.tms j).due=(gt s.tms k.toNat).due by assumption) he.1)))] at hP
           exact Next.mk (j+1,k) (by kernel_rfl) ⟨by dsimp only;omega,hk0,by dsimp only;omega,hP⟩ (by dsimp only;omega))
        | (rw [if_neg (by rw [show (gt s.tms j).fired=false by assumption];simp),if_neg (show ¬ N<(gt s.tms j).due by assumption),if_neg (fun hh=>hh.elim (show ¬ k<0 by assumption) (fun hb=>(hbT.1 hb).elim (show ¬ (gt s.tms j).due<(gt s.tms k.toNat).due by assumption) (fun he=>(show ¬ Op.bytesLess (BB (gt s.tms j).name).toList (BB (gt s.tms k.toNat).name).toList=true by assumption) he.2)))] at hP
           exact Next.mk (j+1,k) (by kernel_rfl) ⟨by dsimp only;omega,hk0,by dsimp only;omega,hP⟩ (by dsimp only;omega))
    · rw [List.drop_of_length_le (by omega),d0X] at hP
      rw [hP] at hF
      have hn16:0≤k→(gt s.tms k.toNat).name.length≤16:=fun hk=>hok.tname _ (a0K (l:=s.tms) (k:=k.toNat) (by omega))
      by_cases hkz:k<0
      · repeat' (with_reducible first|refine Wx.h ?_|refine Wb.h fun K hK=>?_|(refine hK _ ?_;clear hK K)|(refine wT ?_ ?_;assumption)|refine Wq.h ?_ ?_<;>intro h<;>try (exfalso;omega)|((fail_if_success refine Wz.h ?_);simp (disch:=omega) only [↓LD,LA,a0A,seval,LSt,pnB,pnD,h0U,e0b,f0y,k0B,Tm.cs,-a0A,List.map_cons,List.map_nil]))
        rw [if_pos hkz] at hF
        rw [hF] at hQ
        exact end1 rfl rfl (by kernel_rfl) .f (hQ _ _ rfl rfl)
      rw [if_neg hkz] at hF
      have hn17:=hn16 (by omega)
      haveI:Kn ((gt s.tms k.toNat).name.length≤1000000):=⟨by omega⟩
      have hw:=a0y (e:=⟨0,0,0,6,0,0,(gt s.tms k.toNat).name,[],[]⟩) ho (b0q (by omega) (by simp) c0N)
      have hwu:=m0J (p:=⟨s,ver,now,out⟩) (nm:=(gt s.tms k.toNat).name)
      have hu2:=hu1 s.tms
      repeat' (with_reducible first|refine Wx.h ?_|refine Wb.h fun K hK=>?_|(refine hK _ ?_;clear hK K)|(refine wF ?_ ?_;assumption)|refine Wq.h ?_ ?_<;>intro h<;>try (exfalso;omega)|((fail_if_success refine Wz.h ?_);first|simp (disch:=omega) only [↓LD,LA,a0A,seval,LSt,pnB,pnD,h0U,e0b,f0y,k0B,Tm.cs,-a0A,List.map_cons,List.map_nil]|(refine And.intro ?_ ?_;omega)|fail))
      · have hz:(a0P ⟨s,ver,now,out⟩ ⟨0,0,0,6,0,0,(gt s.tms k.toNat).name,[],[]⟩).1=0:=by assumption
        have hwu:=hwu hz
        dsimp only at hwu hn1
        rw [if_neg (fun hh=>hh hz)] at hF
        refine Next.mk ((a0P ⟨s,ver,now,out⟩ ⟨0,0,0,6,0,0,(gt s.tms k.toNat).name,[],[]⟩).2,m+1) (by kernel_rfl) ⟨hw,by dsimp only;omega,by dsimp only;omega,?_⟩ (by dsimp only;omega)
        dsimp only
        rw [hF]
        exact l0S hwu (Nat.lt_succ_self _)
      · have hz:(a0P ⟨s,ver,now,out⟩ ⟨0,0,0,6,0,0,(gt s.tms k.toNat).name,[],[]⟩).1≠0:=by assumption
        rw [if_pos hz] at hF
        rw [hF] at hQ
        exact end1 rfl rfl (by kernel_rfl) .f (hQ _ _ rfl rfl)
instance {s:S12}{ver now:Int}{out:List Ev}{H:List Row}{K:D→List Row→Prop}{ds:List Nd}[ho:Kn (Ok12 s)][hl:Kn (out.length≤1000000)][k1:Kn (Fit ds)] :
  Wa (a0S Tryz.prog (.fn 89 []) [.pt 0 0,.f (fG ds)] (.box 121 [.f (.v (.int .i64 s.id)),.f (.v (.int .i64 s.ver)),.f (.v (.int .i64 s.time)),.f (.v (.int .i64 s.closed)),.f (.v (.bool s.cancel)),.f (fG s.defs),.f (fNn s.nodes),.f (fTm s.tms),.f (fSg s.sgs),.f (.v (.int .i64 ver)),.f (.v (.int .i64 now)),.f (fEv out)] :: H) K) (K (.f (.v (.int .i64 (d0K ⟨s,ver,now,out⟩ ds).1))) (pnB (d0K ⟨s,ver,now,out⟩ ds).2 :: H)):=⟨fun h =>
 b0n (t0S ⟨s,ver,now,out⟩ ds ho.h hl.h k1.h) rfl rfl (fun _=>rfl) (fun _=>rfl) (fun _=>rfl) (fun _=>rfl) h⟩
instance {s:S12}{ver now:Int}{out:List Ev}{H:List Row}{K:D→List Row→Prop}  [ho:Kn (Ok12 s)][hl:Kn (out.length≤1000000)] :
  Wa (a0S Tryz.prog (.fn 115 []) [.pt 0 0] (.box 121 [.f (.v (.int .i64 s.id)),.f (.v (.int .i64 s.ver)),.f (.v (.int .i64 s.time)),.f (.v (.int .i64 s.closed)),.f (.v (.bool s.cancel)),.f (fG s.defs),.f (fNn s.nodes),.f (fTm s.tms),.f (fSg s.sgs),.f (.v (.int .i64 ver)),.f (.v (.int .i64 now)),.f (fEv out)] :: H) K) (K (.tp [.f (.v (.int .i64 (c0G ⟨s,ver,now,out⟩).1.1)),.f (.v (.int .i64 (c0G ⟨s,ver,now,out⟩).1.2.1)),.f (.v (.int .i64 (c0G ⟨s,ver,now,out⟩).1.2.2))]) (pnB (c0G ⟨s,ver,now,out⟩).2 :: H)):=⟨fun h =>
 b0n (s0p ⟨s,ver,now,out⟩ ho.h hl.h) rfl rfl (fun _=>rfl) (fun _=>rfl) (fun _=>rfl) (fun _=>rfl) h⟩
instance {s:S12}{ver now:Int}{out:List Ev}{H:List Row}{K:Bool→D→List Row→Prop}{i t:Int}{ok:Bool}{d:Bs}[ho:Kn (Ok12 s)][hl:Kn (out.length≤1000000)][k1:Kn (d.length≤1000000)] :
  Wa (a0j Tryz.prog (.fn 116 []) [.pt 0 0,.f (.v (.int .i64 i)),.f (.v (.int .i64 t)),.f (.v (.bool ok)),.f (fY d)] (.box 121 [.f (.v (.int .i64 s.id)),.f (.v (.int .i64 s.ver)),.f (.v (.int .i64 s.time)),.f (.v (.int .i64 s.closed)),.f (.v (.bool s.cancel)),.f (fG s.defs),.f (fNn s.nodes),.f (fTm s.tms),.f (fSg s.sgs),.f (.v (.int .i64 ver)),.f (.v (.int .i64 now)),.f (fEv out)] :: H) K) (K true (.f (.v (.int .i64 (b0T ⟨s,ver,now,out⟩ i t ok d).1))) (pnB (b0T ⟨s,ver,now,out⟩ i t ok d).2 :: H)):=⟨fun h =>
 f0l (p0w ⟨s,ver,now,out⟩ i t ok d ho.h hl.h k1.h) rfl rfl (fun _=>rfl) (fun _=>rfl) (fun _=>rfl) (fun _=>rfl) h⟩
instance {s:S12}{ver now:Int}{out:List Ev}{H:List Row}{K:Bool→D→List Row→Prop}{nm:Bs}{t:Int}[ho:Kn (Ok12 s)][hl:Kn (out.length≤1000000)][k1:Kn (nm.length≤1000000)] :
  Wa (a0j Tryz.prog (.fn 118 []) [.pt 0 0,.f (.v (.string (BB nm))),.f (.v (.int .i64 t))] (.box 121 [.f (.v (.int .i64 s.id)),.f (.v (.int .i64 s.ver)),.f (.v (.int .i64 s.time)),.f (.v (.int .i64 s.closed)),.f (.v (.bool s.cancel)),.f (fG s.defs),.f (fNn s.nodes),.f (fTm s.tms),.f (fSg s.sgs),.f (.v (.int .i64 ver)),.f (.v (.int .i64 now)),.f (fEv out)] :: H) K) (K true (.f (.v (.int .i64 (armP ⟨s,ver,now,out⟩ nm t).1))) (pnB (armP ⟨s,ver,now,out⟩ nm t).2 :: H)):=⟨fun h =>
 f0l (b1L ⟨s,ver,now,out⟩ nm t ho.h hl.h k1.h) rfl rfl (fun _=>rfl) (fun _=>rfl) (fun _=>rfl) (fun _=>rfl) h⟩
instance {s:S12}{ver now:Int}{out:List Ev}{H:List Row}{K:Bool→D→List Row→Prop}{nm d:Bs}[ho:Kn (Ok12 s)][hl:Kn (out.length≤1000000)][k1:Kn (nm.length≤1000000)][k2:Kn (d.length≤1000000)] :
  Wa (a0j Tryz.prog (.fn 91 []) [.pt 0 0,.f (.v (.string (BB nm))),.f (fY d)] (.box 121 [.f (.v (.int .i64 s.id)),.f (.v (.int .i64 s.ver)),.f (.v (.int .i64 s.time)),.f (.v (.int .i64 s.closed)),.f (.v (.bool s.cancel)),.f (fG s.defs),.f (fNn s.nodes),.f (fTm s.tms),.f (fSg s.sgs),.f (.v (.int .i64 ver)),.f (.v (.int .i64 now)),.f (fEv out)] :: H) K) (K true (.tp [.f (.v (.bool (b0V ⟨s,ver,now,out⟩ nm d).1.1)),.f (.v (.int .i64 (b0V ⟨s,ver,now,out⟩ nm d).1.2))]) (pnB (b0V ⟨s,ver,now,out⟩ nm d).2 :: H)):=⟨fun h =>
 f0l (q0X ⟨s,ver,now,out⟩ nm d ho.h hl.h k1.h k2.h) rfl rfl (fun _=>rfl) (fun _=>rfl) (fun _=>rfl) (fun _=>rfl) h⟩
instance {s:S12}{ver now:Int}{out:List Ev}{H:List Row}{K:D→List Row→Prop}  [ho:Kn (Ok12 s)][hl:Kn (out.length≤1000000)] :
  Wa (a0S Tryz.prog (.fn 120 []) [.pt 0 0] (.box 121 [.f (.v (.int .i64 s.id)),.f (.v (.int .i64 s.ver)),.f (.v (.int .i64 s.time)),.f (.v (.int .i64 s.closed)),.f (.v (.bool s.cancel)),.f (fG s.defs),.f (fNn s.nodes),.f (fTm s.tms),.f (fSg s.sgs),.f (.v (.int .i64 ver)),.f (.v (.int .i64 now)),.f (fEv out)] :: H) K) (K (.f (.v (.int .i64 (b0m ⟨s,ver,now,out⟩).1))) (pnB (b0m ⟨s,ver,now,out⟩).2 :: H)):=⟨fun h =>
 b0n (o0v ⟨s,ver,now,out⟩ ho.h hl.h) rfl rfl (fun _=>rfl) (fun _=>rfl) (fun _=>rfl) (fun _=>rfl) h⟩
instance {s:S12}{ver now:Int}{out:List Ev}{H:List Row}{K:D→List Row→Prop}  [ho:Kn (Ok12 s)][hl:Kn (out.length≤1000000)] :
  Wa (a0S Tryz.prog (.fn 121 []) [.pt 0 0] (.box 121 [.f (.v (.int .i64 s.id)),.f (.v (.int .i64 s.ver)),.f (.v (.int .i64 s.time)),.f (.v (.int .i64 s.closed)),.f (.v (.bool s.cancel)),.f (fG s.defs),.f (fNn s.nodes),.f (fTm s.tms),.f (fSg s.sgs),.f (.v (.int .i64 ver)),.f (.v (.int .i64 now)),.f (fEv out)] :: H) K) (K (.f (.v (.int .i64 (f0c ⟨s,ver,now,out⟩).1))) (pnB (f0c ⟨s,ver,now,out⟩).2 :: H)):=⟨fun h =>
 b0n (j0I ⟨s,ver,now,out⟩ ho.h hl.h) rfl rfl (fun _=>rfl) (fun _=>rfl) (fun _=>rfl) (fun _=>rfl) h⟩
instance {s:S12}{ver now:Int}{out:List Ev}{H:List Row}{K:D→List Row→Prop}[ho:Kn (Ok12 s)][hl:Kn (out.length≤1000000)][k1:Kn (∃ b,PnOk b ⟨s,ver,now,out⟩)] :
  Wa (a0S Tryz.prog (.fn 119 []) [.pt 0 0] (.box 121 [.f (.v (.int .i64 s.id)),.f (.v (.int .i64 s.ver)),.f (.v (.int .i64 s.time)),.f (.v (.int .i64 s.closed)),.f (.v (.bool s.cancel)),.f (fG s.defs),.f (fNn s.nodes),.f (fTm s.tms),.f (fSg s.sgs),.f (.v (.int .i64 ver)),.f (.v (.int .i64 now)),.f (fEv out)] :: H) K) (K (.f (.v (.int .i64 (f0o ⟨s,ver,now,out⟩).1))) (pnB (f0o ⟨s,ver,now,out⟩).2 :: H)):=⟨fun h =>
 b0n (k1.h.elim fun b hb=>w0y b ⟨s,ver,now,out⟩ hb) rfl rfl (fun _=>rfl) (fun _=>rfl) (fun _=>rfl) (fun _=>rfl) h⟩
def SgN (e:Ev):Prop:=e.ty=7→∃ a r,e.name=c0O a++r
def PnS (p:Pn):Prop:=∀ e∈p.out,SgN e
theorem c0Q {p:Pn}{e:Ev}(h:PnS p)(he:SgN e):PnS (a0P p e).2:=by
 have hn:SgN (a0V p e):=he
 rcases f0X p e with ⟨_,h2⟩|⟨_,_,h2,_,h3⟩|⟨_,_,h2,_,f,hf,h3,h4⟩
 ·rw [h2];exact h
 ·rw [h3]
  intro x hx
  rcases List.mem_append.1 hx with hx|hx
  ·exact h x hx
  ·obtain rfl:=List.mem_singleton.1 hx;exact hn
 ·rw [h4]
  intro x hx
  rcases List.mem_append.1 hx with hx|hx
  ·exact h x hx
  ·rcases List.mem_cons.1 hx with rfl|hx
   ·exact hn
   ·obtain rfl:=List.mem_singleton.1 hx
    intro ht
    have hk:=g0P (a0G p.s (a0V p e)).2
    have hft:x.ty=a0Z (a0G p.s (a0V p e)).2:=by rw [hf];try rfl
    omega
theorem g0T {e:Ev}(h:e.ty≠7):SgN e:=fun hh=>absurd hh h
structure PnT (b:S12)(p:Pn):Prop where
 ok:PnOk b p
 sg:PnS p
theorem c1E {b:S12}{p:Pn}{ds:List Nd}(h:PnT b p)(hd:Fit ds):PnT b (d0K p ds).2:=by
 refine ⟨b1c h.ok hd,?_⟩
 unfold d0K
 repeat' split
 all_goals first|exact h.sg|exact c0Q h.sg (g0T (by simp))
theorem w0C {b:S12}{p:Pn}(h:PnT b p):PnT b (c0G p).2:=by
 refine ⟨y0y h.ok,?_⟩
 unfold c0G
 repeat' split
 all_goals first|exact h.sg|exact c0Q h.sg (g0T (by simp))
theorem r0q {b:S12}{p:Pn}{i t:Int}{ok:Bool}{d:Bs}(h:PnT b p)(hd:d.length≤1000000):PnT b (b0T p i t ok d).2:=by
 refine ⟨x0h h.ok hd,?_⟩
 unfold b0T
 repeat' split
 all_goals first|exact h.sg|exact c0Q h.sg (g0T (by simp))
theorem f1n {b:S12}{p:Pn}{nm:Bs}{t:Int}(h:PnT b p)(hn:nm.length≤1000000):PnT b (armP p nm t).2:=by
 refine ⟨e1V h.ok hn,?_⟩
 unfold armP
 repeat' split
 all_goals first|exact h.sg|exact c0Q h.sg (g0T (by simp))
theorem a1S {b:S12}{p:Pn}{x y:Int}{d:Bs}(h:PnT b p)(hn:(c0O x++c0O y).length≤1000000)(hd:d.length≤1000000):PnT b (b0V p (c0O x++c0O y) d).2:=by
 refine ⟨w0f h.ok hn hd,?_⟩
 unfold b0V
 repeat' split
 all_goals first|exact h.sg|exact c0Q h.sg (fun _=>⟨x,c0O y,rfl⟩)
theorem a1j {b:S12}{p:Pn}(h:PnT b p):PnT b (b0m p).2:=by
 refine ⟨w0h h.ok,?_⟩
 unfold b0m
 repeat' split
 all_goals first|exact h.sg|exact c0Q h.sg (g0T (by simp))
theorem e1a {b:S12}{p:Pn}(h:PnT b p):PnT b (f0c p).2:=by
 refine ⟨c1F h.ok,?_⟩
 unfold f0c
 repeat' split
 all_goals first|exact h.sg|exact c0Q h.sg (g0T (by simp))
theorem i0o {now:Int}:∀ {k i:Nat} {p:Pn} {n:Int},PnS p→PnS (d0g now k i p n).2.1
 | 0,_,_,_,h=>h
 | k+1,i,p,n,h=>by
  rw [d0g]
  have hw:=c0Q (e:=⟨0,0,0,4,i,(gt p.s.nodes i).tr,[],[],[]⟩) h (g0T (by simp))
  split
  ·exact h
  ·split
   ·exact i0o h
   ·split
    ·exact i0o h
    ·split
     ·exact hw
     ·exact i0o hw
theorem a1f {now:Int}:∀ {f:Nat} {p:Pn} {n:Int},PnS p→PnS (f0n now f p n).2
 | 0,_,_,h=>h
 | f+1,p,n,h=>by
  rw [f0n]
  split
  ·exact h
  ·split
   ·exact h
   ·have hw:=c0Q (e:=⟨0,0,0,6,0,0,(gt p.s.tms (d0X now p.s.tms 0 (-1) p.s.tms).toNat).name,[],[]⟩) h (g0T (by simp))
    split
    ·exact hw
    ·exact a1f hw
theorem e1s {b:S12}{p:Pn}(h:PnT b p):PnT b (f0o p).2:=by
 refine ⟨c1U h.ok,?_⟩
 unfold f0o
 split
 ·exact i0o h.sg
 ·exact a1f (i0o h.sg)
theorem f1z {a b:Bs}:BB a++BB b=BB (a++b):=by
 apply ByteArray.ext
 rw [ByteArray.data_append]
 simp [BB]
def finA (p:Pn)(x:Rw):Nat→Nat→Pn
 | 0,_=>(c0G p).2
 | f+1,i=>if (gt p.s.nodes i).st=1 then (if 0<x.a.tmod 4 then (b0T p i (gt p.s.nodes i).tr true (fewL x.data 40)).2 else (b0T p i (gt p.s.nodes i).tr false (fewL x.data 0)).2) else finA p x f (i+1)
def i0y (p:Pn)(x:Rw)(l:List Rd):Pn :=
 if p.s.id=0 then (d0K p (f0Q l)).2
 else if pick x.what 16≤4 then (c0G p).2
 else if pick x.what 16≤8 then finA p x p.s.nodes.length 0
 else if pick x.what 16≤9 then (armP p (c0O x.a) (1+pick x.b 9)).2
 else if pick x.what 16≤12 then (b0V p (c0O x.a++c0O x.b) (fewL x.data 40)).2
 else if pick x.what 16≤14 then (f0o p).2
 else if x.b.tmod 4=0 then (b0m p).2 else if x.b.tmod 29=28 then (f0c p).2 else p
theorem b1U {b:Bs}{n:Int}(h:0≤n)(hn:n≤1000):(fewL b n).length≤1000000:=by have:=h0S (b:=b) (n:=n) h;omega
theorem e1W (a b:Int):(c0O a++c0O b).length≤1000000:=by have:=b0X a;have:=b0X b;rw [List.length_append];omega
theorem d1W {b:S12}{p:Pn}{x:Rw}(h:PnT b p):∀ {f i:Nat},PnT b (finA p x f i)
 | 0,_=>w0C h
 | f+1,i=>by
  rw [finA]
  split
  ·split
   ·exact r0q h (b1U (by omega) (by omega))
   ·exact r0q h (b1U (by omega) (by omega))
  ·exact d1W h
theorem t0P {b:S12}{p:Pn}{x:Rw}{l:List Rd}(h:PnT b p):PnT b (i0y p x l):=by
 have hd:=o0H l
 unfold i0y
 repeat' split
 ·exact c1E h (hd.1.fit hd.2.2)
 ·exact w0C h
 ·exact d1W h
 ·exact f1n h (by have:=b0X x.a;omega)
 ·exact a1S h (e1W _ _) (b1U (by omega) (by omega))
 ·exact e1s h
 ·exact a1j h
 ·exact e1a h
 ·exact h
set_option maxRecDepth 100000 in
theorem h0F (b:S12)(p:Pn)(x:Rw)(l:List Rd)(hp:PnT b p):Con Tryz.prog 73 [.pt 0 0,rwD x,.f (fR l)] [pnB p] fun r H'=>r = .tp []∧H'=[pnB (i0y p x l)]:=by
 obtain ⟨s,ver,now,out⟩:=p
 suffices hh:∀ Q:D→List Row→Prop,(∀ p',i0y ⟨s,ver,now,out⟩ x l=p'→Q (.tp []) [pnB p'])→Con Tryz.prog 73 [.pt 0 0,rwD x,.f (fR l)] [pnB ⟨s,ver,now,out⟩] Q from hh _ fun p' h=>⟨rfl,by rw [h]⟩
 intro Q hQ
 have hE:i0y ⟨s,ver,now,out⟩ x l=i0y ⟨s,ver,now,out⟩ x l:=rfl
 conv at hE=>rhs;unfold i0y
 dsimp only at hE
 have ho:Ok12 s:=hp.ok.ok
 have hl:out.length≤200:=hp.ok.len
 haveI:Kn (Ok12 s):=⟨ho⟩
 haveI:Kn (Wk12 s):=⟨ho.wk⟩
 haveI:Kn (out.length≤1000000):=⟨by omega⟩
 refine Con.walk good r0e (by simp) ?_
 unfold j0R
 simp only [a0I,pnB,pnD,rwD]
 have hf1:=h0S (b:=x.data) (n:=40) (by omega)
 have hf2:=h0S (b:=x.data) (n:=0) (by omega)
 haveI:Kn ((fewL x.data 40).length≤1000000):=⟨by omega⟩
 haveI:Kn ((fewL x.data 0).length≤1000000):=⟨by omega⟩
 haveI:Kn ((c0O x.a).length≤1000000):=⟨by have:=b0X x.a;omega⟩
 haveI:Kn (∃ b,PnOk b ⟨s,ver,now,out⟩):=⟨b,hp.ok⟩
 by_cases hz:s.id=0
 ·repeat' (with_reducible first|refine Wx.h ?_|refine Wb.h fun K hK=>?_|(refine hK _ ?_;clear hK K)|(refine wT ?_ ?_;assumption)|((fail_if_success refine Wz.h ?_);simp (disch:=omega) only [↓LD,LA,a0A,seval]))
  refine a0J (o0E l) [] (by kernel_rfl) rfl rfl ?_
  rintro _ _ ⟨rfl,rfl⟩
  have hd:=o0H l
  haveI:Kn (Fit (f0Q l)):=⟨hd.1.fit hd.2.2⟩
  simp (disch:=omega) only [↓LD,LA,a0A,seval,ren,List.getElem?_nil]
  repeat' (with_reducible first|refine Wx.h ?_|(refine hK _ ?_;clear hK K)|((fail_if_success refine Wz.h ?_);simp (disch:=omega) only [↓LD,LA,a0A,seval]))
  exact RetS.still (ds:=[]) (by kernel_rfl) (by kernel_rfl) (.tps .nil) (hQ _ (by rw [hE,if_pos hz]))
 haveI:Kn ((c0O x.a++c0O x.b).length≤1000000):=⟨by have:=b0X x.a;have:=b0X x.b;rw [List.length_append];omega⟩
 have hsz:(BB (c0O x.a)).size+(BB (c0O x.b)).size≤1000:=by have:=b0X x.a;have:=b0X x.b;rw [v0i,v0i];omega
 have hnl:=ho.wk.fit.fit.nodes
 have hla:=b0X x.a
 have hlb:=b0X x.b
 have hpk:=b0v (x:=x.b) (n:=9) (by omega)
 rw [if_neg hz] at hE
 have hpw:=b0v (x:=x.what) (n:=16) (by omega)
 repeat' (with_reducible first|refine Wx.h ?_|refine We.h fun K hK=>?_|(refine hK _ _ _ _ ?_;clear hK K;try clear hM M)|refine Wb.h fun K hK=>?_|(refine hK _ ?_;clear hK K)|(refine wF ?_ ?_;assumption)|(refine Wy.h ?_ ?_;kernel_rfl)|refine Wq.h ?_ ?_<;>intro h|((fail_if_success refine Wz.h ?_);first|simp (disch:=omega) only [↓LD,LA,a0A,seval,f1z]|(refine And.intro ?_ ?_;omega)|fail))
 all_goals first
  | exact RetS.still (ds:=[]) (by kernel_rfl) (by kernel_rfl) (.tps .nil) (hQ (c0G ⟨s,ver,now,out⟩).2 (by rw [hE,if_pos (by omega)]))
  | exact RetS.still (ds:=[]) (by kernel_rfl) (by kernel_rfl) (.tps .nil) (hQ (armP ⟨s,ver,now,out⟩ (c0O x.a) (1+pick x.b 9)).2 (by rw [hE,if_neg (by omega),if_neg (by omega),if_pos (by omega)]))
  | exact RetS.still (ds:=[]) (by kernel_rfl) (by kernel_rfl) (.tps .nil) (hQ (b0V ⟨s,ver,now,out⟩ (c0O x.a++c0O x.b) (fewL x.data 40)).2 (by rw [hE,if_neg (by omega),if_neg (by omega),if_neg (by omega),if_pos (by omega)]))
  | exact RetS.still (ds:=[]) (by kernel_rfl) (by kernel_rfl) (.tps .nil) (hQ (f0o ⟨s,ver,now,out⟩).2 (by rw [hE,if_neg (by omega),if_neg (by omega),if_neg (by omega),if_neg (by omega),if_pos (by omega)]))
  | exact RetS.still (ds:=[]) (by kernel_rfl) (by kernel_rfl) (.tps .nil) (hQ (b0m ⟨s,ver,now,out⟩).2 (by rw [hE,if_neg (by omega),if_neg (by omega),if_neg (by omega),if_neg (by omega),if_neg (by omega),if_pos (by assumption)]))
  | exact RetS.still (ds:=[]) (by kernel_rfl) (by kernel_rfl) (.tps .nil) (hQ (f0c ⟨s,ver,now,out⟩).2 (by rw [hE,if_neg (by omega),if_neg (by omega),if_neg (by omega),if_neg (by omega),if_neg (by omega),if_neg (by assumption),if_pos (by assumption)]))
  | exact RetS.still (ds:=[]) (by kernel_rfl) (by kernel_rfl) (.tps .nil) (hQ ⟨s,ver,now,out⟩ (by rw [hE,if_neg (by omega),if_neg (by omega),if_neg (by omega),if_neg (by omega),if_neg (by omega),if_neg (by assumption),if_neg (by assumption)]))
  | skip
 all_goals
  rw [if_neg (by omega),if_pos (by omega)] at hE
  refine HS.loopG [0,4,6] (fun i:Nat=>⟨frm 124 [(0,.pt 0 0),(4,.pt 1 0),(6,D.int i)],[pnB ⟨s,ver,now,out⟩,.box 115 [D.int x.what,D.int x.a,D.int x.b,D.int x.c,D.int x.v,.f (fY x.data)]],[]⟩)
   (fun i=>i≤s.nodes.length∧i0y ⟨s,ver,now,out⟩ x l=finA ⟨s,ver,now,out⟩ x (s.nodes.length-i) i) (fun i=>s.nodes.length-i) 0 (by kernel_rfl) ⟨Nat.zero_le _,hE⟩ ?_
  clear hE
  rintro i ⟨hi,hE⟩
  by_cases hil:i<s.nodes.length
  ·rw [show s.nodes.length-i=(s.nodes.length-(i+1))+1 by omega,finA] at hE
   dsimp only at hE
   repeat' (with_reducible first|refine Wx.h ?_|refine We.h fun K hK=>?_|(refine hK _ _ _ _ ?_;clear hK K;try clear hM M)|refine Wb.h fun K hK=>?_|(refine hK _ ?_;clear hK K)|(refine wT ?_ ?_;assumption)|(refine wF ?_ ?_;assumption)|(refine Wy.h ?_ ?_;kernel_rfl)|refine Wq.h ?_ ?_<;>intro h<;>try (exfalso;omega)|((fail_if_success refine Wz.h ?_);first|simp (disch:=omega) only [↓LD,LA,a0A,seval,LSt,pnB,pnD,b0u,g0F,a0i,Nn.cs]|(refine And.intro ?_ ?_;omega)|fail))
   all_goals first
    | exact RetS.still (ds:=[]) (by kernel_rfl) (by kernel_rfl) (.tps .nil) (hQ (b0T ⟨s,ver,now,out⟩ i (gt s.nodes i).tr true (fewL x.data 40)).2 (by rw [hE,if_pos (by assumption),if_pos (by assumption)]))
    | exact RetS.still (ds:=[]) (by kernel_rfl) (by kernel_rfl) (.tps .nil) (hQ (b0T ⟨s,ver,now,out⟩ i (gt s.nodes i).tr false (fewL x.data 0)).2 (by rw [hE,if_pos (by assumption),if_neg (by assumption)]))
    | exact Next.mk (i+1) (by kernel_rfl) ⟨by omega,by rw [hE,if_neg (by assumption)]⟩ (by omega)
  ·rw [show s.nodes.length-i=0 by omega,finA] at hE
   repeat' (with_reducible first|refine Wx.h ?_|refine Wb.h fun K hK=>?_|(refine hK _ ?_;clear hK K)|refine Wq.h ?_ ?_<;>intro h<;>try (exfalso;omega)|((fail_if_success refine Wz.h ?_);simp (disch:=omega) only [↓LD,LA,a0A,seval,LSt,pnB,pnD,b0u,g0F,a0i,Nn.cs]))
   exact RetS.still (ds:=[]) (by kernel_rfl) (by kernel_rfl) (.tps .nil) (hQ _ hE)
theorem c1C {g:List Ev}{k:Nat}(hk:k<g.length):((g.flatMap Ev.cs).drop (k*9)).take 9=Ev.cs (gt g k):=i0x Ev.cs_len hk
def rEv (l:List Ev):Row:=.data 73 (l.flatMap Ev.cs)
set_option maxRecDepth 100000 in
theorem s0e (l:List Ev)(hl:l.length≤1000000)(hf:∀ e∈l,FitV e):Con Tryz.prog 28 [.sl 0 0 l.length] [rEv l] fun r H'=>r = .tp [stD (a0W s0 l).2,D.int (a0W s0 l).1]∧H'=[rEv l]:=by
 refine Con.walk good t0U (by simp) ?_
 unfold k0x
 simp only [a0I]
 repeat' (with_reducible first|refine Wx.h ?_|refine Wb.h fun K hK=>?_|(refine hK _ ?_;clear hK K)|((fail_if_success refine Wz.h ?_);simp (disch:=omega) only [↓LD,LA,a0A,seval,rEv]))
 refine HS.view (View.bcell 2 5 (.f (.s [] 0)) rfl rfl .ns) ?_
 refine HS.view (View.bcell 2 6 (.f (.s [] 0)) rfl rfl .ns) ?_
 refine HS.view (View.bcell 2 7 (.f (.s [] 0)) rfl rfl .ns) ?_
 refine HS.view (View.bcell 2 8 (.f (.s [] 0)) rfl rfl .ns) ?_
 refine HS.loopG [0,2,4,5] (fun x:Nat × S12=>⟨frm 27 [(0,.sl 0 0 l.length),(2,.pt 1 0),(4,.pt 2 0),(5,D.int x.1)],[rEv l,.box 65 [jI,jI,jI,jI,jF,jN,jN,jN,jN],stF x.2],[]⟩)
  (fun x=>x.1≤l.length∧Ok12 x.2∧a0W s0 l=a0W x.2 (l.drop x.1)) (fun x=>l.length-x.1) (0,s0) (by kernel_rfl) ⟨Nat.zero_le _,z0D,rfl⟩ ?_
 rintro ⟨i,s⟩ ⟨hi,ho,hF⟩
 dsimp only at hi ho hF
 by_cases hil:i<l.length
 ·rw [a0H hil,a0W] at hF
  have hv:=hf _ (a0K hil)
  haveI:Kn (Wk12 s):=⟨ho.wk⟩
  haveI:Kn (FitV (gt l i)):=⟨hv⟩
  repeat' (with_reducible first|refine Wx.h ?_|refine We.h fun K hK=>?_|(refine hK _ _ _ _ ?_;clear hK K;try clear hM M)|refine Wb.h fun K hK=>?_|(refine hK _ ?_;clear hK K)|(refine Wy.h ?_ ?_;kernel_rfl)|refine Wq.h ?_ ?_<;>intro h<;>try (exfalso;omega)|((fail_if_success refine Wz.h ?_);first|simp (disch:=omega) only [↓LD,LA,a0A,seval,rEv,c1C,a0N,Ev.cs,stF,List.map_cons,List.map_nil]|(refine And.intro ?_ ?_;omega)|fail))
  ·have hz:(a0G s (gt l i)).1=0:=by assumption
   rw [if_pos hz] at hF
   have ho2:=d0C ho hv.2.2.2 hz
   exact Next.mk (i+1,(a0G s (gt l i)).2) (by kernel_rfl) ⟨by dsimp only;omega,ho2,hF⟩ (by dsimp only;omega)
  ·rw [if_neg (by assumption)] at hF
   rw [hF]
   exact RetS.still (ds:=[.ag [jI,jI,jI,jI,jF,jN,jN,jN,jN],D.int (a0G s (gt l i)).1]) (by kernel_rfl) (by kernel_rfl) (.tps (.cons (.ags (.cons .f (.cons .f (.cons .f (.cons .f (.cons .f (.cons .nil (.cons .nil (.cons .nil (.cons .nil .nil)))))))))) (.cons .f .nil))) ⟨rfl,rfl⟩
 ·repeat' (with_reducible first|refine Wx.h ?_|refine Wb.h fun K hK=>?_|(refine hK _ ?_;clear hK K)|refine Wq.h ?_ ?_<;>intro h<;>try (exfalso;omega)|((fail_if_success refine Wz.h ?_);simp (disch:=omega) only [↓LD,LA,a0A,seval,rEv,stF]))
  rw [List.drop_of_length_le (by omega),a0W] at hF
  rw [hF]
  exact RetS.still (ds:=[stD s,D.int 0]) (by kernel_rfl) (by kernel_rfl) (.tps (.cons e1j (.cons .f .nil))) ⟨rfl,rfl⟩
theorem l0w (l:List Ev)(ver now:Int)(hl:l.length≤1000000)(hf:∀ e∈l,FitV e):Con Tryz.prog 72 [.sl 0 0 l.length,D.int ver,D.int now] [rEv l] fun r H' =>
  (newE l ver now≠0→r = .tp [.f (.v (.pointer none)),D.int (newE l ver now)]∧H'=[rEv l])∧(newE l ver now=0→r = .tp [.pt 1 0,D.int 0]∧H'=[rEv l,pnB ⟨(a0W s0 l).2,ver,now,[]⟩]):=by
 suffices hh:∀ Q:D→List Row→Prop,(∀ r H',((newE l ver now≠0→r = .tp [.f (.v (.pointer none)),D.int (newE l ver now)]∧H'=[rEv l])∧(newE l ver now=0→r = .tp [.pt 1 0,D.int 0]∧H'=[rEv l,pnB ⟨(a0W s0 l).2,ver,now,[]⟩]))→Q r H')→Con Tryz.prog 72 [.sl 0 0 l.length,D.int ver,D.int now] [rEv l] Q from hh _ fun _ _ h=>h
 intro Q hQ
 haveI:Kn (l.length≤1000000):=⟨hl⟩
 haveI:Kn (∀ e∈l,FitV e):=⟨hf⟩
 have hE:newE l ver now=newE l ver now:=rfl
 conv at hE=>rhs;unfold newE
 generalize newE l ver now=E at hQ hE
 generalize hF:a0W s0 l=p at hQ hE
 obtain ⟨v,s⟩:=p
 dsimp only at hE hQ
 refine Con.walk good w0d (by simp) ?_
 unfold q0e
 simp only [a0I]
 repeat' (with_reducible first|refine Wa.h ?_|refine Ws.h ?_|refine Wb.h fun K hK=>?_|(refine hK _ ?_;clear hK K)|((fail_if_success refine Wz.h ?_);simp (disch:=omega) only [↓LD,LA,a0A,seval,rEv]))
 refine a0J (s0e l hl hf) [0] (by kernel_rfl) rfl rfl ?_
 rintro _ _ ⟨rfl,rfl⟩
 simp (disch:=omega) only [↓LD,LA,a0A,seval,ren,List.getElem?_nil,rEv]
 rw [hF]
 repeat' (with_reducible first|refine Wa.h ?_|refine Ws.h ?_|refine Wb.h fun K hK=>?_|(refine hK _ ?_;clear hK K)|refine Wq.h ?_ ?_<;>intro h|refine Wu.h ?_ ?_<;>intro h<;>try simp only [h]|((fail_if_success refine Wz.h ?_);simp (disch:=omega) only [↓LD,LA,a0A,seval,rEv,stD]))
 ·have hv:E=1:=by rw [hE,if_neg (fun hh=>hh (show v=0 by assumption)),if_pos (by assumption)]
  repeat' (with_reducible first|refine Wx.h ?_|fail)
  exact end2 rfl rfl rfl rfl (by kernel_rfl) (.tps (.cons .f (.cons .f .nil))) (hQ _ _ ⟨fun _=>⟨by rw [hv];try rfl,rfl⟩,fun h=>by omega⟩)
 ·have hv:E=1:=by rw [hE,if_neg (fun hh=>hh (show v=0 by assumption)),if_neg (by rw [show (!verB ver)=false by assumption];simp),if_pos (by assumption)]
  repeat' (with_reducible first|refine Wx.h ?_|fail)
  exact end2 rfl rfl rfl rfl (by kernel_rfl) (.tps (.cons .f (.cons .f .nil))) (hQ _ _ ⟨fun _=>⟨by rw [hv];try rfl,rfl⟩,fun h=>by omega⟩)
 ·have hv:E=1:=by rw [hE,if_neg (fun hh=>hh (show v=0 by assumption)),if_neg (by rw [show (!verB ver)=false by assumption];simp),if_neg (by assumption),if_pos (by assumption)]
  repeat' (with_reducible first|refine Wx.h ?_|fail)
  exact end2 rfl rfl rfl rfl (by kernel_rfl) (.tps (.cons .f (.cons .f .nil))) (hQ _ _ ⟨fun _=>⟨by rw [hv];try rfl,rfl⟩,fun h=>by omega⟩)
 ·have hv:E=4:=by rw [hE,if_neg (fun hh=>hh (show v=0 by assumption)),if_neg (by rw [show (!verB ver)=false by assumption];simp),if_neg (by assumption),if_neg (by assumption),if_pos (by assumption)]
  repeat' (with_reducible first|refine Wx.h ?_|fail)
  exact end2 rfl rfl rfl rfl (by kernel_rfl) (.tps (.cons .f (.cons .f .nil))) (hQ _ _ ⟨fun _=>⟨by rw [hv];try rfl,rfl⟩,fun h=>by omega⟩)
 ·have hv:E=0:=by rw [hE,if_neg (fun hh=>hh (show v=0 by assumption)),if_neg (by rw [show (!verB ver)=false by assumption];simp),if_neg (by assumption),if_neg (by assumption),if_neg (by assumption)]
  refine HS.view (View.bcell 2 11 (.f (.s [] 0)) rfl rfl .ns) ?_
  repeat' (with_reducible first|refine Wx.h ?_|fail)
  exact RetS.gather (ds:=[.pt 2 0,D.int 0]) (e:=⟨.tp [.pt 1 0,D.int 0],[(0,rEv l)],[pnB ⟨s,ver,now,[]⟩]⟩) (by kernel_rfl) (by kernel_rfl) (hQ _ _ ⟨fun h=>absurd hv h,fun _=>⟨rfl,rfl⟩⟩)
 ·have hv:E=1:=by rw [hE,if_pos (show v≠0 by assumption)]
  repeat' (with_reducible first|refine Wx.h ?_|fail)
  exact end2 rfl rfl rfl rfl (by kernel_rfl) (.tps (.cons .f (.cons .f .nil))) (hQ _ _ ⟨fun _=>⟨by rw [hv];try rfl,rfl⟩,fun h=>by omega⟩)
def s0n (v:Int):Int:=v+1+ownD (v+1)
def verN:Nat→Int→Int
 | 0,v=>v
 | n+1,v=>verN n (s0n v)
def verL (was n:Int):Int:=max (verN (pick n 3).toNat was) 1
theorem w0I (v:Int):v+1≤s0n v∧s0n v≤v+7:=by
 have:=n0l (v+1)
 unfold s0n;omega
theorem y0U:∀ (n:Nat) (v:Int),v≤verN n v∧verN n v≤v+7*n
 | 0,v=>by simp [verN]
 | n+1,v=>by
  have h1:=y0U n (s0n v)
  have h2:=w0I v
  rw [verN];omega
theorem z0P (was n:Int):was≤verL was n∧1≤verL was n∧verL was n≤max was 1+21:=by
 have h1:=y0U (pick n 3).toNat was
 have h2:=b0v (x:=n) (n:=3) (by omega)
 unfold verL;omega
theorem z0r {x:Int}(h0:0≤x)(h1:¬ x.tmod 10<1)(h2:¬ 4<x.tmod 10):ownD x=0:=by
 rw [Int.tmod_eq_emod_of_nonneg h0] at h1 h2
 unfold ownD;split<;>(try split)<;>omega
theorem i0M (was n:Int)(h0:0≤was)(h1:was≤4398046511104):Con Tryz.prog 58 [D.int was,D.int n] [] fun r H'=>r=D.int (verL was n)∧H'=[]:=by
 refine Con.walk good k0H (by simp) ?_
 unfold e0X
 simp only [a0I]
 repeat' (with_reducible first|refine Wx.h ?_|refine Wb.h fun K hK=>?_|(refine hK _ ?_;clear hK K)|((fail_if_success refine Wz.h ?_);simp (disch:=omega) only [↓LD,LA,a0A,seval]))
 have pk:=b0v (x:=n) (n:=3) (by omega)
 refine HS.loopG [0,1,5,6] (fun x:Nat × Int=>⟨frm 28 [(0,D.int was),(1,D.int n),(5,D.int x.2),(6,D.int x.1)],[],[]⟩) (fun x=>(x.1:Int)≤pick n 3∧was≤x.2∧x.2≤was+11*x.1∧verN (pick n 3).toNat was=verN ((pick n 3).toNat-x.1) x.2) (fun x=>3-x.1) (0,was) (by kernel_rfl) ⟨by dsimp only;omega,by simp,by simp,rfl⟩ ?_
 rintro ⟨i,v⟩ ⟨hi,hv1,hv2,hv0⟩
 dsimp only at hi hv1 hv2 hv0
 repeat' (with_reducible first|refine Wx.h ?_|refine Wb.h fun K hK=>?_|(refine hK _ ?_;clear hK K)|refine Wq.h ?_ ?_<;>intro h|((fail_if_success refine Wz.h ?_);simp (disch:=omega) only [↓LD,LA,a0A,seval]))
 ·have hd:=n0l (v+1)
  rw [show (pick n 3).toNat-i=((pick n 3).toNat-(i+1))+1 by omega,verN] at hv0
  refine HS.loopG [0,1,5,6] (fun x:Int=>⟨frm 28 [(0,D.int was),(1,D.int n),(5,D.int x),(6,D.int i)],[],[]⟩) (fun x=>v+1≤x∧x+ownD x=s0n v) (fun x=>(ownD x).toNat) (v+1) (by kernel_rfl) ⟨by omega,rfl⟩ ?_
  rintro x ⟨hx1,hx2⟩
  have hbv:=w0I v
  have hd2:=n0l x
  have hd3:=n0l (x+1)
  have hst:=a1M (x:=x) (by omega)
  have hgd:=z0r (x:=x) (by omega)
  repeat' (with_reducible first|refine Wx.h ?_|refine Wb.h fun K hK=>?_|(refine hK _ ?_;clear hK K)|refine Wq.h ?_ ?_<;>intro h|((fail_if_success refine Wz.h ?_);simp (disch:=omega) only [↓LD,LA,a0A,seval]))
  ·have hst:=hst (.inl (by assumption))
   exact Next.mk (x+1) (by kernel_rfl) ⟨by omega,by omega⟩ (by omega)
  ·have hst:=hst (.inr (by assumption))
   exact Next.mk (x+1) (by kernel_rfl) ⟨by omega,by omega⟩ (by omega)
  ·have hgd:=hgd (by assumption) (by assumption)
   have hxb:x=s0n v:=by omega
   exact Next.mk (i+1,x) (by kernel_rfl) ⟨by dsimp only;omega,by dsimp only;omega,by dsimp only;omega,by dsimp only;rw [hv0,hxb]⟩ (by dsimp only;omega)
 ·rw [show (pick n 3).toNat-i=0 by omega,verN] at hv0
  exact end1 rfl rfl (by kernel_rfl) .f ⟨by rw [verL,hv0];try rfl,rfl⟩
instance {v n:Int}{H:List Row}{K:D→List Row→Prop}:Wa (a0S Tryz.prog (.fn 58 []) [.f (.v (.int .i64 v)),.f (.v (.int .i64 n))] H K) ((0≤v∧v≤4398046511104)∧K (.f (.v (.int .i64 (verL v n)))) H):=⟨fun h=>a0C (i0M v n h.1.1 h.1.2) rfl rfl rfl h.2⟩
structure BrOk (l:List Ev):Prop where
 fold:(a0W s0 l).1=0
 fit:∀ e∈l,FitV e
 sig:∀ e∈l,SgN e
theorem BrOk.nil:BrOk []:=⟨rfl,fun e h=>by simp at h,fun e h=>by simp at h⟩
theorem BrOk.ok {l:List Ev}(h:BrOk l):Ok12 (a0W s0 l).2:=v0N z0D h.fit h.fold
theorem BrOk.id {l:List Ev}(h:BrOk l):(a0W s0 l).2.id=l.length:=by
 have:=n0z h.fold
 rw [this];simp [s0]
theorem BrOk.len {l:List Ev}(h:BrOk l):l.length≤200:=by
 have h1:=h.id
 have h2:=h.ok.id
 omega
theorem j0V:∀ {l:List Ev} {s:S12},(a0W s l).1=0→∀ e∈l,b0E e=true
 | [],_,_,e,he=>by simp at he
 | x :: l,s,h,e,he=>by
  rw [a0W] at h
  by_cases a:(a0G s x).1=0
  ·rw [if_pos a] at h
   rcases List.mem_cons.1 he with rfl|he
   ·exact (b0l a).1
   ·exact j0V h e he
  ·rw [if_neg a] at h;exact absurd h a
theorem BrOk.right {l:List Ev}(h:BrOk l){e:Ev}(he:e∈l):b0E e=true:=j0V h.fold e he
theorem BrOk.app {l:List Ev}{p:Pn}(h:BrOk l)(hp:PnT (a0W s0 l).2 p):BrOk (l++p.out):=by
 refine ⟨by rw [h0z h.fold,hp.ok.out],fun e he=>?_,fun e he=>?_⟩
 rotate_left
 ·rcases List.mem_append.1 he with he|he
  ·exact h.sig e he
  ·exact hp.sg e he
 rcases List.mem_append.1 he with he|he
 ·exact h.fit e he
 ·exact hp.ok.fit e he
theorem BrOk.pen {l:List Ev}(h:BrOk l)(v now:Int):PnT (a0W s0 l).2 ⟨(a0W s0 l).2,v,now,[]⟩:=⟨⟨h.ok,h.ok,rfl,fun e he=>by simp at he⟩,fun e he=>by simp at he⟩
theorem a1y {l:List Ev}{v now:Int}(h:newE l v now=0):verB v=true∧0≤now∧now≤1099511627776∧(a0W s0 l).2.ver≤v:=by
 unfold newE at h
 split at h
 ·cases h
 split at h
 ·cases h
 split at h
 ·cases h
 split at h
 ·cases h
 split at h
 ·cases h
 refine ⟨?_,by omega,by omega,by omega⟩
 cases hb:verB v with
 | true=>rfl
 | false=>simp_all
theorem k0D {v:Int}(h:verB v=true):1≤v∧v≤1099511627776:=by
 simp only [verB,inI,Bool.and_eq_true,decide_eq_true_eq] at h;exact h.1
def mvA (x:Rw):Int:=IntKind.i64.wrap (IntKind.i64.wrap (x.v.tdiv 4)*x.v.tmod 2)
def i0R (steps:List Rw)(defs:List Rd):Nat→Nat→List Ev→Int→Int→List Ev
 | 0,_,out,_,_=>out
 | f+1,i,out,v,now=>if i<steps.length∧out.length<150 then
   (if newE out (verL v (mvA (gt steps i))) (now+pick (gt steps i).c 5)=0 then
    i0R steps defs f (i+1) (out++(i0y ⟨(a0W s0 out).2,verL v (mvA (gt steps i)),now+pick (gt steps i).c 5,[]⟩ (gt steps i) defs).out) (verL v (mvA (gt steps i))) (now+pick (gt steps i).c 5)
   else out) else out
def f0w (l:List Ev)(steps:List Rw)(defs:List Rd):List Ev :=
 if l.length=0 then i0R steps defs 30 0 [] 1 0 else i0R steps defs 30 0 l (gt l (l.length-1)).ver (gt l (l.length-1)).time
theorem n0V {steps:List Rw}{defs:List Rd}:∀ {f i:Nat} {out:List Ev} {v now:Int},BrOk out→BrOk (i0R steps defs f i out v now)
 | 0,_,_,_,_,h=>h
 | f+1,i,out,v,now,h=>by
  rw [i0R]
  split
  ·split
   ·exact n0V (h.app (t0P (h.pen _ _)))
   ·exact h
  ·exact h
theorem c1b {l:List Ev}{steps:List Rw}{defs:List Rd}(h:BrOk l):BrOk (f0w l steps defs):=by
 unfold f0w;split
 ·exact n0V BrOk.nil
 ·exact n0V h
theorem q0k {steps:List Rw}{defs:List Rd}{f i:Nat}{out:List Ev}{v now:Int}(h:f=0∨¬ (i<steps.length∧out.length<150)):i0R steps defs f i out v now=out:=by
 cases f with
 | zero=>rfl
 | succ f=>rw [i0R,if_neg (by omega)]
set_option maxRecDepth 100000 in
theorem p0R (l:List Ev)(hbr:BrOk l)(steps:List Rw)(defs:List Rd):Con Tryz.prog 37 [.f (fEv l),.f (fRw steps),.f (fR defs)] [] fun r H'=>r = .f (fEv (f0w l steps defs))∧H'=[]:=by
 suffices hh:∀ Q:D→List Row→Prop,(∀ out,f0w l steps defs=out→Q (.f (fEv out)) [])→Con Tryz.prog 37 [.f (fEv l),.f (fRw steps),.f (fR defs)] [] Q from hh _ fun out h=>⟨by rw [h],rfl⟩
 intro Q hQ
 have hE:f0w l steps defs=f0w l steps defs:=rfl
 conv at hE=>rhs;unfold f0w
 have hll:=hbr.len
 refine Con.walk good p0f (by simp) ?_
 unfold j0q
 simp only [a0I]
 have hlast:∀ k:Nat,k<l.length→1≤(gt l k).ver∧(gt l k).ver≤1099511627776∧0≤(gt l k).time∧(gt l k).time≤1099511627776:=fun k hk=>by
  have:=rightE_iff.1 (hbr.right (a0K hk))
  have hv:=k0D this.2.2.1
  exact ⟨hv.1,hv.2,this.2.2.2.1.1,this.2.2.2.1.2⟩
 have e1:((l.length:Int)-1).toNat=l.length-1:=by omega
 have hl0:=hlast (l.length-1)
 by_cases hz:l.length=0
 rotate_left
 have hl1:=hl0 (by omega)
 rw [if_neg hz] at hE
 rotate_left
 rw [if_pos hz] at hE
 obtain rfl:=List.eq_nil_of_length_eq_zero hz
 ·repeat' (with_reducible first|refine Wx.h ?_|refine Wb.h fun K hK=>?_|(refine hK _ ?_;clear hK K)|((fail_if_success refine Wz.h ?_);simp (disch:=omega) only [↓LD,LA,a0A,seval,LEv,j0n,y0p,a0N,Ev.cs,e1]))
  refine HS.loopG [1,2,7,8,9,10] (fun x:Nat × List Ev × Int × Int=>⟨frm 88 [(1,.f (fRw steps)),(2,.f (fR defs)),(7,.sl 0 0 x.2.1.length),(8,D.int x.2.2.1),(9,D.int x.2.2.2),(10,D.int x.1)],[rEv x.2.1],[]⟩)
   (fun x=>x.1≤30∧BrOk x.2.1∧(0≤x.2.2.1∧x.2.2.1≤1099511627776)∧(0≤x.2.2.2∧x.2.2.2≤1099511627776)∧f0w _ steps defs=i0R steps defs (30-x.1) x.1 x.2.1 x.2.2.1 x.2.2.2) (fun x=>30-x.1) (0,[],1,0) (by kernel_rfl) ⟨by omega,BrOk.nil,⟨by dsimp only;omega,by dsimp only;omega⟩,⟨by dsimp only;omega,by dsimp only;omega⟩,hE⟩ ?_
  clear hl0 hlast hll hbr hE
  rintro ⟨i,out,v,now⟩ ⟨hi,ho,hv,hnw,hE⟩
  dsimp only at hi ho hv hnw hE
  have hol:=ho.len
  have hpc:=b0v (x:=(gt steps i).c) (n:=5) (by omega)
  repeat' (with_reducible first|refine Wx.h ?_|refine Wb.h fun K hK=>?_|(refine hK _ ?_;clear hK K)|refine Wq.h ?_ ?_<;>intro h|((fail_if_success refine Wz.h ?_);first|simp (disch:=omega) only [↓LD,LA,a0A,seval,u0d,u0r,a1b,v0p,Rw.cs,-a0A,rEv,List.map_cons,List.map_nil]|(refine And.intro ?_ ?_;omega)|fail))
  ·rw [show 30-i=(30-(i+1))+1 by omega,i0R,if_pos ⟨by omega,by omega⟩] at hE
   have hvl:=z0P v (mvA (gt steps i))
   unfold mvA at hE hvl
   generalize verL v (IntKind.i64.wrap (IntKind.i64.wrap ((gt steps i).v.tdiv 4)*(gt steps i).v.tmod 2))=v1 at *
   refine a0J (l0w out v1 (now+pick (gt steps i).c 5) (by omega) ho.fit) [0] (by kernel_rfl) rfl rfl ?_
   rintro _ _ ⟨hq1,hq2⟩
   by_cases hn:newE out v1 (now+pick (gt steps i).c 5)=0
   ·rw [if_pos hn] at hE
    obtain ⟨rfl,rfl⟩:=hq2 hn
    obtain ⟨a1,a2,a3,a4⟩:=a1y hn
    have a5:=k0D a1
    simp (disch:=omega) only [↓LD,LA,a0A,seval,ren,List.getElem?_nil,rEv,pnB,pnD]
    repeat' (with_reducible first|refine Wx.h ?_|refine Wb.h fun K hK=>?_|(refine hK _ ?_;clear hK K)|((fail_if_success refine Wz.h ?_);simp (disch:=omega) only [↓LD,LA,a0A,seval,rEv,pnB,pnD]))
    refine a0J (h0F (a0W s0 out).2 ⟨(a0W s0 out).2,v1,now+pick (gt steps i).c 5,[]⟩ (gt steps i) defs (ho.pen _ _)) [2] (by kernel_rfl) rfl rfl ?_
    rintro _ _ ⟨rfl,rfl⟩
    have hp':=t0P (x:=gt steps i) (l:=defs) (ho.pen v1 (now+pick (gt steps i).c 5))
    generalize i0y ⟨(a0W s0 out).2,v1,now+pick (gt steps i).c 5,[]⟩ (gt steps i) defs=p' at *
    have hpl:=hp'.ok.len
    have hap:=ho.app hp'
    simp (disch:=omega) only [↓LD,LA,a0A,seval,ren,List.getElem?_nil,rEv,pnB,pnD]
    repeat' (with_reducible first|refine Wx.h ?_|refine Wb.h fun K hK=>?_|(refine hK _ ?_;clear hK K)|refine Wq.h ?_ ?_<;>intro h|((fail_if_success refine Wz.h ?_);first|simp (disch:=omega) only [↓LD,LA,a0A,seval,rEv,LEv,a0N]|(refine And.intro ?_ ?_;omega)|fail))
    ·rw [List.eq_nil_of_length_eq_zero (show p'.out.length=0 by omega),List.append_nil] at hE
     exact Next.mk (i+1,out,v1,now+pick (gt steps i).c 5) (by kernel_rfl) ⟨by dsimp only;omega,ho,⟨by dsimp only;omega,by dsimp only;omega⟩,⟨by dsimp only;omega,by dsimp only;omega⟩,hE⟩ (by dsimp only;omega)
    ·rw [←List.flatMap_append,←List.length_append]
     exact Next.mk (i+1,out++p'.out,v1,now+pick (gt steps i).c 5) (by kernel_rfl) ⟨by dsimp only;omega,hap,⟨by dsimp only;omega,by dsimp only;omega⟩,⟨by dsimp only;omega,by dsimp only;omega⟩,hE⟩ (by dsimp only;omega)
   ·rw [if_neg hn] at hE
    obtain ⟨rfl,rfl⟩:=hq1 hn
    simp (disch:=omega) only [↓LD,LA,a0A,seval,ren,List.getElem?_nil,rEv]
    repeat' (with_reducible first|refine Wx.h ?_|refine Wb.h fun K hK=>?_|(refine hK _ ?_;clear hK K)|(refine wF ?_ ?_;assumption)|((fail_if_success refine Wz.h ?_);simp (disch:=omega) only [↓LD,LA,a0A,seval,rEv]))
    exact end1 rfl rfl (by kernel_rfl) (.sl (T:=73) (xs:=out.flatMap Ev.cs) rfl (fun e=>by rw [List.eq_nil_of_length_eq_zero e];try rfl)) (hQ out (hE))
  all_goals exact end1 rfl rfl (by kernel_rfl) (.sl (T:=73) (xs:=out.flatMap Ev.cs) rfl (fun e=>by rw [List.eq_nil_of_length_eq_zero e];try rfl)) (hQ out (by rw [hE,q0k (by omega)]))
 ·repeat' (with_reducible first|refine Wx.h ?_|refine Wb.h fun K hK=>?_|(refine hK _ ?_;clear hK K)|(refine wF ?_ ?_;assumption)|refine Wq.h ?_ ?_<;>intro h<;>try (exfalso;omega)|((fail_if_success refine Wz.h ?_);first|simp (disch:=omega) only [↓LD,LA,a0A,seval,LEv,j0n,y0p,a0N,Ev.cs,e1]|(refine And.intro ?_ ?_;omega)|fail))
  refine HS.loopG [1,2,7,8,9,10] (fun x:Nat × List Ev × Int × Int=>⟨frm 88 [(1,.f (fRw steps)),(2,.f (fR defs)),(7,.sl 0 0 x.2.1.length),(8,D.int x.2.2.1),(9,D.int x.2.2.2),(10,D.int x.1)],[rEv x.2.1],[]⟩)
   (fun x=>x.1≤30∧BrOk x.2.1∧(0≤x.2.2.1∧x.2.2.1≤1099511627776)∧(0≤x.2.2.2∧x.2.2.2≤1099511627776)∧f0w _ steps defs=i0R steps defs (30-x.1) x.1 x.2.1 x.2.2.1 x.2.2.2) (fun x=>30-x.1) (0,l,(gt l (l.length-1)).ver,(gt l (l.length-1)).time) (by kernel_rfl) ⟨by omega,hbr,⟨by dsimp only;omega,by dsimp only;omega⟩,⟨by dsimp only;omega,by dsimp only;omega⟩,hE⟩ ?_
  clear hl0 hlast hll hbr hE
  rintro ⟨i,out,v,now⟩ ⟨hi,ho,hv,hnw,hE⟩
  dsimp only at hi ho hv hnw hE
  have hol:=ho.len
  have hpc:=b0v (x:=(gt steps i).c) (n:=5) (by omega)
  repeat' (with_reducible first|refine Wx.h ?_|refine Wb.h fun K hK=>?_|(refine hK _ ?_;clear hK K)|refine Wq.h ?_ ?_<;>intro h|((fail_if_success refine Wz.h ?_);first|simp (disch:=omega) only [↓LD,LA,a0A,seval,u0d,u0r,a1b,v0p,Rw.cs,-a0A,rEv,List.map_cons,List.map_nil]|(refine And.intro ?_ ?_;omega)|fail))
  ·rw [show 30-i=(30-(i+1))+1 by omega,i0R,if_pos ⟨by omega,by omega⟩] at hE
   have hvl:=z0P v (mvA (gt steps i))
   unfold mvA at hE hvl
   generalize verL v (IntKind.i64.wrap (IntKind.i64.wrap ((gt steps i).v.tdiv 4)*(gt steps i).v.tmod 2))=v1 at *
   refine a0J (l0w out v1 (now+pick (gt steps i).c 5) (by omega) ho.fit) [0] (by kernel_rfl) rfl rfl ?_
   rintro _ _ ⟨hq1,hq2⟩
   by_cases hn:newE out v1 (now+pick (gt steps i).c 5)=0
   ·rw [if_pos hn] at hE
    obtain ⟨rfl,rfl⟩:=hq2 hn
    obtain ⟨a1,a2,a3,a4⟩:=a1y hn
    have a5:=k0D a1
    simp (disch:=omega) only [↓LD,LA,a0A,seval,ren,List.getElem?_nil,rEv,pnB,pnD]
    repeat' (with_reducible first|refine Wx.h ?_|refine Wb.h fun K hK=>?_|(refine hK _ ?_;clear hK K)|((fail_if_success refine Wz.h ?_);simp (disch:=omega) only [↓LD,LA,a0A,seval,rEv,pnB,pnD]))
    refine a0J (h0F (a0W s0 out).2 ⟨(a0W s0 out).2,v1,now+pick (gt steps i).c 5,[]⟩ (gt steps i) defs (ho.pen _ _)) [2] (by kernel_rfl) rfl rfl ?_
    rintro _ _ ⟨rfl,rfl⟩
    have hp':=t0P (x:=gt steps i) (l:=defs) (ho.pen v1 (now+pick (gt steps i).c 5))
    generalize i0y ⟨(a0W s0 out).2,v1,now+pick (gt steps i).c 5,[]⟩ (gt steps i) defs=p' at *
    have hpl:=hp'.ok.len
    have hap:=ho.app hp'
    simp (disch:=omega) only [↓LD,LA,a0A,seval,ren,List.getElem?_nil,rEv,pnB,pnD]
    repeat' (with_reducible first|refine Wx.h ?_|refine Wb.h fun K hK=>?_|(refine hK _ ?_;clear hK K)|refine Wq.h ?_ ?_<;>intro h|((fail_if_success refine Wz.h ?_);first|simp (disch:=omega) only [↓LD,LA,a0A,seval,rEv,LEv,a0N]|(refine And.intro ?_ ?_;omega)|fail))
    ·rw [List.eq_nil_of_length_eq_zero (show p'.out.length=0 by omega),List.append_nil] at hE
     exact Next.mk (i+1,out,v1,now+pick (gt steps i).c 5) (by kernel_rfl) ⟨by dsimp only;omega,ho,⟨by dsimp only;omega,by dsimp only;omega⟩,⟨by dsimp only;omega,by dsimp only;omega⟩,hE⟩ (by dsimp only;omega)
    ·rw [←List.flatMap_append,←List.length_append]
     exact Next.mk (i+1,out++p'.out,v1,now+pick (gt steps i).c 5) (by kernel_rfl) ⟨by dsimp only;omega,hap,⟨by dsimp only;omega,by dsimp only;omega⟩,⟨by dsimp only;omega,by dsimp only;omega⟩,hE⟩ (by dsimp only;omega)
   ·rw [if_neg hn] at hE
    obtain ⟨rfl,rfl⟩:=hq1 hn
    simp (disch:=omega) only [↓LD,LA,a0A,seval,ren,List.getElem?_nil,rEv]
    repeat' (with_reducible first|refine Wx.h ?_|refine Wb.h fun K hK=>?_|(refine hK _ ?_;clear hK K)|(refine wF ?_ ?_;assumption)|((fail_if_success refine Wz.h ?_);simp (disch:=omega) only [↓LD,LA,a0A,seval,rEv]))
    exact end1 rfl rfl (by kernel_rfl) (.sl (T:=73) (xs:=out.flatMap Ev.cs) rfl (fun e=>by rw [List.eq_nil_of_length_eq_zero e];try rfl)) (hQ out (hE))
  all_goals exact end1 rfl rfl (by kernel_rfl) (.sl (T:=73) (xs:=out.flatMap Ev.cs) rfl (fun e=>by rw [List.eq_nil_of_length_eq_zero e];try rfl)) (hQ out (by rw [hE,q0k (by omega)]))
theorem k0e (steps:List Rw)(defs:List Rd):Con Tryz.prog 9 [.f (fRw steps),.f (fR defs)] [] fun r H'=>r = .f (fEv (f0w [] steps defs))∧H'=[]:=by
 refine Con.walk good k0U (by simp) ?_
 unfold f0U
 simp only [a0I]
 repeat' (with_reducible first|refine Wx.h ?_|refine Wb.h fun K hK=>?_|(refine hK _ ?_;clear hK K)|((fail_if_success refine Wz.h ?_);simp (disch:=omega) only [↓LD,LA,a0A,seval]))
 refine e0E (args0:=[.f (fEv []),.f (fRw steps),.f (fR defs)]) ?_ (.cons (.f .ns) (.cons .refl (.cons .refl .nil)))
 refine a0J (p0R [] BrOk.nil steps defs) [] (by kernel_rfl) rfl rfl ?_
 rintro _ _ ⟨rfl,rfl⟩
 simp (disch:=omega) only [↓LD,LA,a0A,seval,ren,List.getElem?_nil]
 repeat' (with_reducible first|refine Wx.h ?_|(refine hK _ ?_;clear hK K)|((fail_if_success refine Wz.h ?_);simp (disch:=omega) only [↓LD,LA,a0A,seval]))
 exact end1 rfl rfl (by kernel_rfl) .f ⟨rfl,rfl⟩
theorem l0z:∀ {b:List Ev} {s:S12} {i:Nat},(a0W s b).1=0→(a0W s (b.take i)).1=0
 | [],s,i,h=>by simpa using h
 | e :: b,s,0,h=>rfl
 | e :: b,s,i+1,h=>by
  rw [List.take_succ_cons,a0W]
  rw [a0W] at h
  by_cases a:(a0G s e).1=0
  ·rw [if_pos a] at h ⊢;exact l0z h
  ·rw [if_neg a] at h;exact absurd h a
noncomputable def eqB {α:Type}(a b:α):Bool:=@decide (a=b) (Classical.propDecidable _)
theorem d0h {α:Type}{a b:α}(h:a=b):eqB a b=true:=by simp [eqB,h]
theorem c0k {α:Type}{a b:α}(h:¬ a=b):eqB a b=false:=by simp [eqB,h]
theorem d0b {α:Type}{a b:List α}(h:¬ (a.length:Int)=b.length):eqB a b=false:=c0k fun e=>h (by rw [e])
theorem d0O {α:Type}{a b:List α}{i:Nat}(hl:(a.length:Int)=b.length)(h:a.take i=b.take i)(hi:¬ (i:Int)<a.length):eqB a b=true:=d0h (by
 rwa [List.take_of_length_le (by omega),List.take_of_length_le (by omega)] at h)
theorem b0o {α:Type}[Inhabited α]{a b:List α}{i:Nat}(hl:(a.length:Int)=b.length)(hi:i<a.length)(h:a.take i=b.take i)(e:gt a i=gt b i):a.take (i+1)=b.take (i+1):=by
 rw [List.take_succ_eq_append_getElem hi,List.take_succ_eq_append_getElem (by omega),h,←b0F hi,←b0F (by omega),e]
theorem f0b {α:Type}[Inhabited α]{a b:List α}{i:Nat}(e:¬ gt a i=gt b i):eqB a b=false:=c0k fun h=>e (by rw [h])
theorem e0N {α:Type}{a:α}:eqB a a=true:=d0h rfl
theorem u0v {α:Type}{a b:α}(h:eqB a b=true):a=b:=by simpa [eqB] using h
def r0m:SCode :=
  (jq ([.a 2 (.box 73 (.t 0)),.a 3 (.box 73 (.t 1)),.a 4 (.mv kF)]) (jq ((ap [jo 5 0 2,jl 6 5,jo 7 0 3,jl 8 7,jB 9 .eql 6 8] (ap [jm 10 9,gO 11 1
 2 10 true] (ap [gL 12 11 10 true,gO 13 1 3 10 true,gL 14 13 10 true,jG 15 (.bin .eql (.t 12) (.t 14)) 10 true] (ap [.a 16 (.pick (.t 10) (.t 15)
 kF),jm 17 16,gO 18 2 2 17 true] (ap [gL 19 18 17 true,gO 20 2 3 17 true,gL 21 20 17 true,jG 22 (.bin .eql (.t 19) (.t 21)) 17 true] (ap [.a 23
 (.pick (.t 17) (.t 22) kF),jm 24 23,gO 25 3 2 24 true] (ap [gL 26 25 24 true,gO 27 3 3 24 true,gL 28 27 24 true,jG 29 (.bin .eql (.t 26) (.t 28))
 24 true] (ap [.a 30 (.pick (.t 24) (.t 29) kF),jm 31 30,gO 32 4 2 31 true] (ap [gL 33 32 31 true,gO 34 4 3 31 true,gL 35 34 31 true,jG 36 (.bin
 .eql (.t 33) (.t 35)) 31 true] (ap [.a 37 (.pick (.t 31) (.t 36) kF),jm 38 37,gO 39 5 2 38 true] (ap [gL 40 39 38 true,gO 41 5 3 38 true,gL 42 41
 38 true,jG 43 (.bin .eql (.t 40) (.t 42)) 38 true] (ap [.a 44 (.pick (.t 38) (.t 43) kF),jm 45 44,gO 46 6 2 45 true] (ap [gL 47 46 45 true,gO 48 6
 3 45 true,gL 49 48 45 true,jG 50 (.bin .eql (.t 47) (.t 49)) 45 true] (ap [.a 51 (.pick (.t 45) (.t 50) kF),jm 52 51,gO 53 7 2 52 true] (ap [gL 54
 53 52 true,jG 55 (.b2s (.t 54)) 52 true,gO 56 7 3 52 true,gL 57 56 52 true,jG 58 (.b2s (.t 57)) 52 true,jG 59 (.bin .eql (.t 55) (.t 58)) 52 true]
 (ap [.a 60 (.pick (.t 52) (.t 59) kF),jm 61 60,gO 62 8 2 61 true] (ap [gL 63 62 61 true,gO 64 8 3 61 true,gL 65 64 61 true,jG 66 (.call (kC 82)
 [(.t 63),(.t 65)]) 61 true] [.a 67 (.pick (.t 61) (.t 66) kF),jm 4 67])))))))))))))))))) .ret))
theorem w0g:Fn Tryz.prog 50 68 [.t 4] r0m:=.of Tryz.func50 (by kernel_rfl)
def g0f:SCode :=
  (jq ([.a 4 (.mv kF)]) (.seq (jq ([jm 6 0,je 7 6,jm 8 1,je 9 8,jB 10 .neq 7 9]) (jc 10 (jq ([.a 4 (.mv kF)]) .ret) .skip)) (.seq (jq ([jk 5 0])
 (.block 0 (.loop (.seq (jq ([jm 11 5,jm 12 0,je 13 12,jB 14 .lss 11 13]) (jc 14 .skip (.exit 0))) (.seq (.block 1 (.seq (.drw [jm 17 0,jm 18 5,jx
 19 9 17 18,jL 20 9 19,jm 21 1,jm 22 5,jx 23 9 21 22,jL 24 9 23,.a 25 (.call (kC 50) [(.t 20),(.t 24)]),.a 26 (.unot (.t 25))] [0,0,3,7,0,
 0,48,112,255,511]) (jc 26 (jq ([.a 4 (.mv kF)]) .ret) .skip))) (.ops [jm 15 5,jb 16 .add 15 1,jm 5 16])))))) (jq ([.a 4 (.mv kT)]) .ret))))
theorem n0f:Fn Tryz.prog 17 27 [.t 4] g0f:=.of Tryz.func17 (by kernel_rfl)
def b1B:SCode :=
  (jq ([.a 2 (.mv kN)]) (jq ([.a 3 (.mv kN)]) (.seq (jq ([jk 4 0]) (.block 0 (.loop (.seq (jq ([jm 5 4,jm 6 0,je 7 6,jB 8 .lss 5 7]) (jc 8 .skip
 (.exit 0))) (.seq (.block 1 (.ops (ap [jm 11 3,jm 12 0,jm 13 4,jx 14 9 12 13,jo 15 1 14,jl 16 15,.a 17 (.bsl 3 1 1 [jI] [(0,(.t 16))]),.a 18
 (.app 3 1 8 (.t 11) (.t 17))] [jm 3 18]))) (.ops [jm 9 4,jb 10 .add 9 1,jm 4 10])))))) (.seq (jq ([jm 19 0,je 20 19,jb 21 .eql 20 0]) (jc 21 (jq
 ([.a 2 (.mv kN)]) .ret) .skip)) (jq ((ap [jm 22 3,jm 23 0,.a 24 (.idx 9 (.t 23) (kI 0)),jo 25 0 24,jl 26 25,.a 27 (.call (kC 74) [(.t 22),(.t
 26)])] [jm 2 27])) .ret)))))
theorem c1q:Fn Tryz.prog 39 28 [.t 2] b1B:=.of Tryz.func39 (by kernel_rfl)
def m0V:SCode :=
  (jq ([.a 4 (.mv kN)]) (jq ([.a 5 (.mv kN)]) (.seq (jq ([jk 6 0]) (.block 0 (.loop (.seq (jq ([jm 8 6,jm 9 0,je 10 9,jB 11 .lss 8 10]) (jc 11 .skip
 (.exit 0))) (.seq (.block 1 (jq ([jm 14 5,je 15 14,jm 7 15]) (.seq (.drw [jm 16 7,jb 17 .gtr 16 0,jm 18 17,gM 19 5 18 true,gM 20 7 18 true,jG 21
 (.bin .sub (.t 20) (kI 1)) 18 true,jG 22 (.idx 2 (.t 19) (.t 21)) 18 true,gO 23 1 22 18 true,gL 24 23 18 true,gM 25 0 18 true,gM 26 6 18 true,jG
 27 (.idx 1 (.t 25) (.t 26)) 18 true,gL 28 27 18 true,jG 29 (.bin .eql (.t 24) (.t 28)) 18 true,.a 30 (.pick (.t 18) (.t 29) kF)] [0,1,3,7,7,23,
 63,127,255,7,7,1543,3591,8191,16383]) (jc 30 (.ops [jm 31 5,jm 32 7,jb 33 .sub 32 1,jm 34 1,jm 35 6,jB 36 .add 34 35,jx 37 2 31 33,jo 38
 0 37,.n (.store 1 (.t 38) (.t 36))]) (.ops (ap [jm 39 5,jm 40 1,jm 41 6,jB 42 .add 40 41,jm 43 0,jm 44 6,jx 45 1 43 44,jl 46 45,.a 47 (.bld
 [jI,jI] [(0,1,(.t 42)),(1,1,(.t 46))]),.a 48 (.bsl 57 2 1 [jI,jI] [(0,(.t 47))]),.a 49 (.app 57 2 16 (.t 39) (.t 48))] [jm 5 49])))))) (.ops
 [jm 12 6,jb 13 .add 12 1,jm 6 13])))))) (jq ([jm 50 5,jm 4 50]) .ret))))
theorem s0S:Fn Tryz.prog 74 51 [.t 4] m0V:=.of Tryz.func74 (by kernel_rfl)
structure Im where
 id:Int
 ver:Int
 deriving Inhabited,DecidableEq
def Im.cs (x:Im):List F:=[iF x.id,iF x.ver]
theorem Im.cs_len (x:Im):x.cs.length=2:=rfl
def fIm (l:List Im):F:=.s (l.flatMap Im.cs) l.length
theorem v0S {g:List Im}:slcS (.f (fIm g))=some g.length:=id rfl
theorem w0U {g:List Im}{sz:Nat}{k:IntKind}{i:Int}{K:D→Prop}:idxS sz (.f (fIm g)) (.f (.v (.int k i))) K=((0≤i∧i<g.length)∧K (.rf ((g.flatMap Im.cs).drop (i.toNat*sz)))):=id rfl
theorem c0t {g:List Im}:(g.flatMap Im.cs).length=g.length*2:=b0A Im.cs_len g
theorem h0X {H:List Row}{g:List Im}{k:Nat}(hk:k<g.length):loadA H 2 (.rf ((g.flatMap Im.cs).drop (k*2)))=some (.ag ((Im.cs (gt g k)).map .f)):=b0Q Im.cs_len hk
theorem i0P {g:List Im}{k:Nat}(hk:k<g.length):(g.flatMap Im.cs)[k*2+1]?=some (iF (gt g k).ver):=a0w (j:=1) Im.cs_len hk (by omega)
theorem u0L {l:List Im}{a b:Int}:l.flatMap Im.cs++[F.v (.int .i64 a),.v (.int .i64 b)]=(l++[(⟨a,b⟩:Im)]).flatMap Im.cs:=by simp [Im.cs]
theorem y0T:∀ {l:List Im} {k:Nat} {a:Int},k<l.length→(l.flatMap Im.cs).set (k*2) (.v (.int .i64 a))=(l.set k ⟨a,(gt l k).ver⟩).flatMap Im.cs
 | [],k,a,h=>by simp at h
 | x :: l,0,a,h=>rfl
 | x :: l,k+1,a,h=>by
  have ih:=y0T (l:=l) (k:=k) (a:=a) (by simpa using h)
  rw [List.set_cons_succ,List.flatMap_cons,List.flatMap_cons,show gt (x :: l) (k+1)=gt l k by simp [gt],←ih,show (k+1)*2=k*2+1+1 by omega]
  rfl
theorem LIm:type_of% @v0S∧type_of% @w0U:=⟨@v0S,@w0U⟩
def b0p (l:List Im)(id v:Int):List Im:=if 0<l.length∧(gt l (l.length-1)).ver=v then l.set (l.length-1) ⟨id,v⟩ else l++[⟨id,v⟩]
theorem z0F {l:List Im}{id v:Int}:(b0p l id v).length≤l.length+1:=by
 unfold b0p;split<;>simp
def ofA (first:Int):Nat→List Int→List Im→List Im
 | _,[],acc=>acc
 | i,v :: vs,acc=>ofA first (i+1) vs (b0p acc (first+i) v)
def h0A (vs:List Int)(first:Int):List Im:=ofA first 0 vs []
def ofL (l:List Ev):List Im:=if l=[] then [] else h0A (l.map (·.ver)) (gt l 0).id
set_option maxRecDepth 100000 in
theorem w0b (vs:List Int)(first:Int)(hv:vs.length≤1000000)(hf:0≤first∧first≤1000000000):Con Tryz.prog 74 [.f (fI vs),D.int first] [] fun r H'=>r = .f (fIm (h0A vs first))∧H'=[]:=by
 refine Con.walk good s0S (by simp) ?_
 unfold m0V
 simp only [a0I]
 refine HS.seq ?_
 repeat' (with_reducible first|refine Wa.h ?_|refine Wb.h fun K hK=>?_|(refine hK _ ?_;clear hK K)|((fail_if_success refine Wz.h ?_);simp (disch:=omega) only [↓LD,LA,a0A,seval]))
 refine HS.seq ?_
 repeat' (with_reducible first|refine Wa.h ?_|refine Wb.h fun K hK=>?_|(refine hK _ ?_;clear hK K)|((fail_if_success refine Wz.h ?_);simp (disch:=omega) only [↓LD,LA,a0A,seval]))
 refine HS.view (View.void 57) ?_
 refine HS.view (View.slot 5 (.sl 0 0 0) (.no (by decide))) ?_
 repeat' (with_reducible first|refine Wx.h ?_|refine Wb.h fun K hK=>?_|(refine hK _ ?_;clear hK K)|((fail_if_success refine Wz.h ?_);simp (disch:=omega) only [↓LD,LA,a0A,seval]))
 refine HS.loopG [0,1,5,6] (fun x:Nat × Nat × List Im=>⟨frm 51 [(0,.f (fI vs)),(1,D.int first),(5,.sl 0 0 x.2.1),(6,D.int x.1)],[.data 57 (x.2.2.flatMap Im.cs)],[]⟩) (fun x=>x.1≤vs.length∧x.2.1=x.2.2.length∧x.2.1≤x.1∧h0A vs first=ofA first x.1 (vs.drop x.1) x.2.2) (fun x=>vs.length-x.1) (0,0,[]) (by kernel_rfl) ⟨Nat.zero_le _,rfl,Nat.zero_le _,rfl⟩ ?_
 rintro ⟨i,n,out⟩ ⟨hi,hn,ho,he⟩
 dsimp only at hi hn ho he
 subst hn
 by_cases hil:i<vs.length
 ·rw [a0H hil,ofA] at he
  have e1:((out.length:Int)-1).toNat=out.length-1:=by omega
  by_cases h0:0<out.length
  ·by_cases hv1:(gt out (out.length-1)).ver=gt vs i
   ·have hgr:b0p out (first+i) (gt vs i)=out.set (out.length-1) ⟨first+i,gt vs i⟩:=if_pos ⟨h0,hv1⟩
    repeat' (with_reducible first|refine Wx.h ?_|refine We.h fun K hK=>?_|refine Wd.h fun K M hK hM=>?_|(refine hK _ _ _ _ ?_;clear hK K;try clear hM M)|refine Wb.h fun K hK=>?_|(refine hK _ ?_;clear hK K)|(refine Wy.h ?_ ?_;kernel_rfl)|refine Wq.h ?_ ?_<;>intro h<;>try (exfalso;omega)|((fail_if_success refine Wz.h ?_);first|simp (disch:=omega) only [↓LD,LA,a0A,seval,c0t,i0P,e1,hv1,y0T]|(refine And.intro ?_ ?_;omega)|fail))
    exact Next.mk (i+1,out.length,out.set (out.length-1) ⟨first+i,gt vs i⟩) (by kernel_rfl) ⟨by dsimp only;omega,by simp,by dsimp only;omega,by rw [he,hgr]⟩ (by dsimp only;omega)
   ·have hgr:b0p out (first+i) (gt vs i)=out++[⟨first+i,gt vs i⟩]:=if_neg (fun h=>hv1 h.2)
    repeat' (with_reducible first|refine Wx.h ?_|refine We.h fun K hK=>?_|refine Wd.h fun K M hK hM=>?_|(refine hK _ _ _ _ ?_;clear hK K;try clear hM M)|refine Wb.h fun K hK=>?_|(refine hK _ ?_;clear hK K)|(refine wF ?_ ?_;assumption)|(refine Wy.h ?_ ?_;kernel_rfl)|refine Wq.h ?_ ?_<;>intro h<;>try (exfalso;omega)|((fail_if_success refine Wz.h ?_);first|simp (disch:=omega) only [↓LD,LA,a0A,seval,c0t,i0P,e1,u0L]|(refine And.intro ?_ ?_;omega)|fail))
    exact Next.mk (i+1,out.length+1,out++[⟨first+i,gt vs i⟩]) (by kernel_rfl) ⟨by dsimp only;omega,by simp,by dsimp only;omega,by rw [he,hgr]⟩ (by dsimp only;omega)
  ·have hgr:b0p out (first+i) (gt vs i)=out++[⟨first+i,gt vs i⟩]:=if_neg (fun h=>h0 h.1)
   repeat' (with_reducible first|refine Wx.h ?_|refine We.h fun K hK=>?_|refine Wd.h fun K M hK hM=>?_|(refine hK _ _ _ _ ?_;clear hK K;try clear hM M)|(refine hM ?_;clear hM M;try clear hK K)|refine Wb.h fun K hK=>?_|(refine hK _ ?_;clear hK K)|(refine Wy.h ?_ ?_;kernel_rfl)|refine Wq.h ?_ ?_<;>intro h<;>try (exfalso;omega)|((fail_if_success refine Wz.h ?_);first|simp (disch:=omega) only [↓LD,LA,a0A,seval,c0t,i0P,e1,u0L]|(refine And.intro ?_ ?_;omega)|fail))
   exact Next.mk (i+1,out.length+1,out++[⟨first+i,gt vs i⟩]) (by kernel_rfl) ⟨by dsimp only;omega,by simp,by dsimp only;omega,by rw [he,hgr]⟩ (by dsimp only;omega)
 ·rw [List.drop_of_length_le (by omega),ofA] at he
  repeat' (with_reducible first|refine Wx.h ?_|refine Wb.h fun K hK=>?_|(refine hK _ ?_;clear hK K)|refine Wq.h ?_ ?_<;>intro h<;>try (exfalso;omega)|((fail_if_success refine Wz.h ?_);simp (disch:=omega) only [↓LD,LA,a0A,seval]))
  rw [he]
  exact end1 rfl rfl (by kernel_rfl) (.sl (T:=57) (xs:=out.flatMap Im.cs) rfl (fun e=>by rw [List.eq_nil_of_length_eq_zero e];rfl)) ⟨rfl,rfl⟩
theorem p0x:∀ (vs:List Int) (first:Int) (i:Nat) (acc:List Im),(ofA first i vs acc).length≤acc.length+vs.length
 | [],_,_,acc=>by simp [ofA]
 | v :: vs,first,i,acc=>by
  have h:=p0x vs first (i+1) (b0p acc (first+i) v)
  have h2:=z0F (l:=acc) (id:=first+i) (v:=v)
  rw [ofA,List.length_cons];omega
theorem f1N (l:List Ev):(ofL l).length≤l.length:=by
 unfold ofL h0A
 split
 ·simp
 ·have:=p0x (l.map (·.ver)) (gt l 0).id 0 []
  simpa using this
set_option maxRecDepth 100000 in
theorem e1S (l:List Ev)(hl:l.length≤1000000)(hid:l≠[]→0≤(gt l 0).id∧(gt l 0).id≤1000000000):Con Tryz.prog 39 [.f (fEv l)] [] fun r H'=>r = .f (fIm (ofL l))∧H'=[]:=by
 refine Con.walk good c1q (by simp) ?_
 unfold b1B
 simp only [a0I]
 refine HS.seq ?_
 repeat' (with_reducible first|refine Wa.h ?_|refine Wb.h fun K hK=>?_|(refine hK _ ?_;clear hK K)|((fail_if_success refine Wz.h ?_);simp (disch:=omega) only [↓LD,LA,a0A,seval]))
 refine HS.seq ?_
 repeat' (with_reducible first|refine Wa.h ?_|refine Wb.h fun K hK=>?_|(refine hK _ ?_;clear hK K)|((fail_if_success refine Wz.h ?_);simp (disch:=omega) only [↓LD,LA,a0A,seval]))
 refine HS.view (View.void 3) ?_
 refine HS.view (View.slot 3 (.sl 0 0 0) (.no (by decide))) ?_
 repeat' (with_reducible first|refine Wx.h ?_|refine Wb.h fun K hK=>?_|(refine hK _ ?_;clear hK K)|((fail_if_success refine Wz.h ?_);simp (disch:=omega) only [↓LD,LA,a0A,seval]))
 refine HS.loopG [0,3,4] (fun i:Nat=>⟨frm 28 [(0,.f (fEv l)),(3,.sl 0 0 i),(4,D.int i)],[.data 3 (((l.take i).map (·.ver)).map iF)],[]⟩) (fun i=>i≤l.length) (fun i=>l.length-i) 0 (by kernel_rfl) (Nat.zero_le _) ?_
 rintro i hi
 by_cases hil:i<l.length
 ·have hlen:(l.take i).length=i:=by rw [List.length_take];omega
  have ha:((l.take i).map (·.ver)).map iF++[.v (.int .i64 (gt l i).ver)]=((l.take (i+1)).map (·.ver)).map iF:=by
   rw [List.take_succ_eq_append_getElem hil,List.map_append,List.map_append,←b0F hil];rfl
  repeat' (with_reducible first|refine Wx.h ?_|refine Wb.h fun K hK=>?_|(refine hK _ ?_;clear hK K)|refine Wq.h ?_ ?_<;>intro h<;>try (exfalso;omega)|((fail_if_success refine Wz.h ?_);first|simp (disch:=omega) only [↓LD,LA,a0A,seval,LEv,j0n,a0N,Ev.cs,List.length_map,hlen,ha]|(refine And.intro ?_ ?_;omega)|fail))
  exact Next.mk (i+1) (by kernel_rfl) (by omega) (by omega)
 ·rw [List.take_of_length_le (by omega)]
  have hil:i=l.length:=by omega
  subst hil
  by_cases h0:l=[]
  ·subst h0
   repeat' (with_reducible first|refine Wx.h ?_|refine Wb.h fun K hK=>?_|(refine hK _ ?_;clear hK K)|((fail_if_success refine Wz.h ?_);simp (disch:=omega) only [↓LD,LA,a0A,seval,LEv]))
   exact end1 rfl rfl (by kernel_rfl) .nil ⟨rfl,rfl⟩
  ·have h0':¬ (l.length:Int)=0:=fun e=>h0 (List.eq_nil_of_length_eq_zero (by omega))
   obtain ⟨d1,d2⟩:=hid h0
   have ea:=y0e (g:=l) (k:=0) (by omega)
   rw [Nat.zero_mul] at ea
   repeat' (with_reducible first|refine Wx.h ?_|refine Wb.h fun K hK=>?_|(refine hK _ ?_;clear hK K)|(refine wF ?_ ?_;assumption)|refine Wq.h ?_ ?_<;>intro h<;>try (exfalso;omega)|((fail_if_success refine Wz.h ?_);first|simp (disch:=omega) only [↓LD,LA,a0A,seval,LEv,ea,a0N,Ev.cs]|(refine And.intro ?_ ?_;omega)|fail))
   have hl2:(l.map (·.ver)).length=l.length:=by simp
   refine q0i [0] (args0:=[.f (fI (l.map (·.ver))),D.int (gt l 0).id]) (.cons ?_ (.cons .f .nil)) ?_
   ·rw [fI,hl2]
    refine .sl (T:=3) (xs:=(l.map (·.ver)).map iF) ?_ (fun e=>absurd (List.eq_nil_of_length_eq_zero e) h0)
    rfl
   refine a0C (w0b (l.map (·.ver)) (gt l 0).id (by omega) ⟨d1,d2⟩) rfl rfl rfl ?_
   have ho:ofL l=h0A (l.map (·.ver)) (gt l 0).id:=if_neg h0
   rw [←ho]
   repeat' (with_reducible first|refine Wx.h ?_|(refine hK _ ?_;clear hK K)|((fail_if_success refine Wz.h ?_);simp (disch:=omega) only [↓LD,LA,a0A,seval]))
   exact end1 rfl rfl (by kernel_rfl) .f ⟨rfl,rfl⟩
def IdL (l:List Ev):Prop:=l.length≤1000000∧(l≠[]→0≤(gt l 0).id∧(gt l 0).id≤1000000000)
instance {l:List Ev}{H:List Row}{K:Bool→D→List Row→Prop}[hl:Kn (IdL l)]:Wa (a0j Tryz.prog (.fn 39 []) [.f (fEv l)] H K) (K true (.f (fIm (ofL l))) H):=⟨fun h=>a0O (e1S l hl.h.1 hl.h.2) rfl rfl rfl h⟩
def f0H:SCode :=
  (jq ([.a 4 (.mv kF)]) (.seq (jq ([jm 6 0,je 7 6,jm 8 1,je 9 8,jB 10 .neq 7 9]) (jc 10 (jq ([.a 4 (.mv kF)]) .ret) .skip)) (.seq (jq ([jk 5 0])
 (.block 0 (.loop (.seq (jq ([jm 11 5,jm 12 0,je 13 12,jB 14 .lss 11 13]) (jc 14 .skip (.exit 0))) (.seq (.block 1 (.seq (.drw [jm 17 0,jm 18 5,jx
 19 3 17 18,jo 20 1 19,jl 21 20,jm 22 1,jm 23 5,jx 24 3 22 23,jo 25 1 24,jl 26 25,jB 27 .neq 21 26,jm 28 27,gM 29 0 28 false,gM 30 5 28
 false,jG 31 (.idx 3 (.t 29) (.t 30)) 28 false,gO 32 2 31 28 false,gL 33 32 28 false,gM 34 1 28 false,gM 35 5 28 false,jG 36 (.idx 3 (.t 34) (.t
 35)) 28 false,gO 37 2 36 28 false,gL 38 37 28 false,jG 39 (.bin .neq (.t 33) (.t 38)) 28 false,.a 40 (.pick (.t 28) kT (.t 39)),jm 41 40,gM 42 0
 41 false,gM 43 5 41 false,jG 44 (.idx 3 (.t 42) (.t 43)) 41 false,gO 45 0 44 41 false,gL 46 45 41 false,gM 47 1 41 false,gM 48 5 41 false,jG 49
 (.idx 3 (.t 47) (.t 48)) 41 false,gO 50 0 49 41 false,gL 51 50 41 false,jG 52 (.call (kC 129) [(.t 46),(.t 51)]) 41 false,jG 53 (.unot (.t 52)) 41
 false,.a 54 (.pick (.t 41) kT (.t 53))] [0,0,3,7,15,0,0,96,224,480,1023,2047,4095,4095,16383,32767,65535,4095,4095,397311,921599,
 1970175,4194303,8388607,16777215,33554431,33554431,134217727,268435455,536870911,33554431,33554431,3254779903,7549747199,16139681791,
 34359738367,68719476735,137438953471]) (jc 54 (jq ([.a 4 (.mv kF)]) .ret) .skip))) (.ops [jm 15 5,jb 16 .add 15 1,jm 5 16])))))) (jq ([.a 4 (.mv
 kT)]) .ret))))
theorem k0O:Fn Tryz.prog 82 55 [.t 4] f0H:=.of Tryz.func82 (by kernel_rfl)
def e0w:SCode :=
  (jq ([.a 4 (.mv kF)]) (.seq (jq ([jm 6 0,je 7 6,jm 8 1,je 9 8,jB 10 .neq 7 9]) (jc 10 (jq ([.a 4 (.mv kF)]) .ret) .skip)) (.seq (jq ([jk 5 0])
 (.block 0 (.loop (.seq (jq ([jm 11 5,jm 12 0,je 13 12,jB 14 .lss 11 13]) (jc 14 .skip (.exit 0))) (.seq (.block 1 (.seq (.drw [jm 17 0,jm 18 5,jx
 19 1 17 18,jl 20 19,jm 21 1,jm 22 5,jx 23 1 21 22,jl 24 23,jB 25 .neq 20 24] [0,0,3,7,0,0,48,112,255]) (jc 25 (jq ([.a 4 (.mv kF)]) .ret)
 .skip))) (.ops [jm 15 5,jb 16 .add 15 1,jm 5 16])))))) (jq ([.a 4 (.mv kT)]) .ret))))
theorem k0W:Fn Tryz.prog 129 26 [.t 4] e0w:=.of Tryz.func129 (by kernel_rfl)
def i0g (l:List Nd):Prop:=l.length≤1000000∧∀ x∈l,x.ns.length≤1000000
theorem c1X {H:List Row}{g:List Nd}{k:Nat}(hk:k<g.length):loadA H 3 (.rf ((g.flatMap Nd.cs).drop (k*3)))=some (.ag ((Nd.cs (gt g k)).map .f)):=b0Q Nd.cs_len hk
theorem r0w {g:List Nd}:(g.flatMap Nd.cs).length=g.length*3:=b0A Nd.cs_len g
theorem n0Z (l m:List Int)(hl:l.length≤1000000)(hm:m.length≤1000000):Con Tryz.prog 129 [.f (fI l),.f (fI m)] [] fun r H'=>r=D.bool (eqB l m)∧H'=[]:=by
 refine Con.walk good k0W (by simp) ?_
 unfold e0w
 simp only [a0I]
 by_cases hlm:(l.length:Int)=m.length
 rotate_left
 ·repeat' (with_reducible first|refine Wx.h ?_|refine Wb.h fun K hK=>?_|(refine hK _ ?_;clear hK K)|(refine wF ?_ ?_;assumption)|((fail_if_success refine Wz.h ?_);simp (disch:=omega) only [↓LD,LA,a0A,seval,LSt]))
  rw [d0b hlm]
  exact end1 rfl rfl (by kernel_rfl) .f ⟨rfl,rfl⟩
 repeat' (with_reducible first|refine Wx.h ?_|refine Wb.h fun K hK=>?_|(refine hK _ ?_;clear hK K)|(refine wT ?_ ?_;assumption)|((fail_if_success refine Wz.h ?_);simp (disch:=omega) only [↓LD,LA,a0A,seval,LSt]))
 refine HS.loopG [0,1,5] (fun i:Nat=>⟨frm 26 [(0,.f (fI l)),(1,.f (fI m)),(5,D.int i)],[],[]⟩) (fun i=>i≤l.length∧l.take i=m.take i) (fun i=>l.length-i) 0 (by kernel_rfl) ⟨Nat.zero_le _,rfl⟩ ?_
 rintro i ⟨hi,ht⟩
 by_cases hil:i<l.length
 ·by_cases e:gt l i=gt m i
  ·repeat' (with_reducible first|refine Wx.h ?_|refine We.h fun K hK=>?_|(refine hK _ _ _ _ ?_;clear hK K;try clear hM M)|refine Wb.h fun K hK=>?_|(refine hK _ ?_;clear hK K)|(refine wT ?_ ?_;assumption)|(refine Wy.h ?_ ?_;kernel_rfl)|refine Wq.h ?_ ?_<;>intro h<;>try (exfalso;omega)|((fail_if_success refine Wz.h ?_);first|simp (disch:=omega) only [↓LD,LA,a0A,seval,LSt]|(refine And.intro ?_ ?_;omega)|fail))
   exact Next.mk (i+1) (by kernel_rfl) ⟨by omega,b0o hlm hil ht e⟩ (by omega)
  ·repeat' (with_reducible first|refine Wx.h ?_|refine We.h fun K hK=>?_|(refine hK _ _ _ _ ?_;clear hK K;try clear hM M)|refine Wb.h fun K hK=>?_|(refine hK _ ?_;clear hK K)|(refine wF ?_ ?_;assumption)|(refine Wy.h ?_ ?_;kernel_rfl)|refine Wq.h ?_ ?_<;>intro h<;>try (exfalso;omega)|((fail_if_success refine Wz.h ?_);first|simp (disch:=omega) only [↓LD,LA,a0A,seval,LSt]|(refine And.intro ?_ ?_;omega)|fail))
   rw [f0b e]
   exact end1 rfl rfl (by kernel_rfl) .f ⟨rfl,rfl⟩
 ·repeat' (with_reducible first|refine Wx.h ?_|refine Wb.h fun K hK=>?_|(refine hK _ ?_;clear hK K)|refine Wq.h ?_ ?_<;>intro h<;>try (exfalso;omega)|((fail_if_success refine Wz.h ?_);simp (disch:=omega) only [↓LD,LA,a0A,seval,LSt]))
  rw [d0O hlm ht (by omega)]
  exact end1 rfl rfl (by kernel_rfl) .f ⟨rfl,rfl⟩
instance {a b:List Int}{H:List Row}{K:Bool→D→List Row→Prop}[ha:Kn (a.length≤1000000)][hb:Kn (b.length≤1000000)]:Wa (a0j Tryz.prog (.fn 129 []) [.f (fI a),.f (fI b)] H K) (K true (.f (.v (.bool (eqB a b)))) H):=⟨fun h=>a0O (n0Z a b ha.h hb.h) rfl rfl rfl h⟩
set_option maxRecDepth 100000 in
theorem n0p (l m:List Nd)(hl:i0g l)(hm:i0g m):Con Tryz.prog 82 [.f (fG l),.f (fG m)] [] fun r H'=>r=D.bool (eqB l m)∧H'=[]:=by
 obtain ⟨hl,hln⟩:=hl
 obtain ⟨hm,hmn⟩:=hm
 refine Con.walk good k0O (by simp) ?_
 unfold f0H
 simp only [a0I]
 by_cases hlm:(l.length:Int)=m.length
 rotate_left
 ·repeat' (with_reducible first|refine Wx.h ?_|refine Wb.h fun K hK=>?_|(refine hK _ ?_;clear hK K)|(refine wF ?_ ?_;assumption)|((fail_if_success refine Wz.h ?_);simp (disch:=omega) only [↓LD,LA,a0A,seval,LSt]))
  rw [d0b hlm]
  exact end1 rfl rfl (by kernel_rfl) .f ⟨rfl,rfl⟩
 repeat' (with_reducible first|refine Wx.h ?_|refine Wb.h fun K hK=>?_|(refine hK _ ?_;clear hK K)|(refine wT ?_ ?_;assumption)|((fail_if_success refine Wz.h ?_);simp (disch:=omega) only [↓LD,LA,a0A,seval,LSt]))
 refine HS.loopG [0,1,5] (fun i:Nat=>⟨frm 55 [(0,.f (fG l)),(1,.f (fG m)),(5,D.int i)],[],[]⟩) (fun i=>i≤l.length∧l.take i=m.take i) (fun i=>l.length-i) 0 (by kernel_rfl) ⟨Nat.zero_le _,rfl⟩ ?_
 rintro i ⟨hi,ht⟩
 by_cases hil:i<l.length
 ·haveI:Kn ((gt l i).ns.length≤1000000):=⟨hln _ (a0K hil)⟩
  haveI:Kn ((gt m i).ns.length≤1000000):=⟨hmn _ (a0K (by omega))⟩
  by_cases e:gt l i=gt m i
  ·have hb:eqB (gt m i).ns (gt m i).ns=true:=e0N
   repeat' (with_reducible first|refine Wx.h ?_|refine We.h fun K hK=>?_|refine Wd.h fun K M hK hM=>?_|(refine hK _ _ _ _ ?_;clear hK K;try clear hM M)|refine Wb.h fun K hK=>?_|(refine hK _ ?_;clear hK K)|(refine Wy.h ?_ ?_;kernel_rfl)|refine Wq.h ?_ ?_<;>intro h<;>try (exfalso;omega)|((fail_if_success refine Wz.h ?_);first|simp (disch:=omega) only [↓LD,LA,a0A,seval,LSt,r0w,b0R,b0S,b0J,hb,e,Bool.not_true]|(refine And.intro ?_ ?_;omega)|fail))
   exact Next.mk (i+1) (by kernel_rfl) ⟨by omega,b0o hlm hil ht e⟩ (by omega)
  ·have hb:(gt l i).tr=(gt m i).tr→(gt l i).le=(gt m i).le→eqB (gt l i).ns (gt m i).ns=false:=fun h1 h2=>c0k fun h3=>e (by
    cases hx:gt l i;cases hy:gt m i;rw [hx,hy] at h1 h2 h3;dsimp only at h1 h2 h3;rw [h1,h2,h3])
   repeat' (with_reducible first|refine Wx.h ?_|refine We.h fun K hK=>?_|refine Wd.h fun K M hK hM=>?_|(refine hK _ _ _ _ ?_;clear hK K;try clear hM M)|(refine hM ?_;clear hM M;try clear hK K)|refine Wb.h fun K hK=>?_|(refine hK _ ?_;clear hK K)|(refine Wy.h ?_ ?_;kernel_rfl)|refine Wq.h ?_ ?_<;>intro h<;>try (exfalso;omega)|((fail_if_success refine Wz.h ?_);first|simp (disch:=omega) only [↓LD,LA,a0A,seval,LSt,r0w,b0R,b0S,b0J,hb]|(refine And.intro ?_ ?_;omega)|fail))
   all_goals
    rw [f0b e]
    exact end1 rfl rfl (by kernel_rfl) .f ⟨rfl,rfl⟩
 ·repeat' (with_reducible first|refine Wx.h ?_|refine Wb.h fun K hK=>?_|(refine hK _ ?_;clear hK K)|refine Wq.h ?_ ?_<;>intro h<;>try (exfalso;omega)|((fail_if_success refine Wz.h ?_);simp (disch:=omega) only [↓LD,LA,a0A,seval,LSt]))
  rw [d0O hlm ht (by omega)]
  exact end1 rfl rfl (by kernel_rfl) .f ⟨rfl,rfl⟩
instance {a b:List Nd}{H:List Row}{K:D→List Row→Prop}[ha:Kn (i0g a)][hb:Kn (i0g b)]:Wa (a0S Tryz.prog (.fn 82 []) [.f (fG a),.f (fG b)] H K) (K (.f (.v (.bool (eqB a b)))) H):=⟨fun h=>a0C (n0p a b ha.h hb.h) rfl rfl rfl h⟩
theorem FitV.df {e:Ev}(h:FitV e):i0g e.defs:=⟨by have:=h.2.2.1;omega,fun x hx=>by have:=h.2.2.2 x hx;omega⟩
set_option maxRecDepth 100000 in
theorem z0X (a b:Ev)(ha:FitV a)(hb:FitV b):Con Tryz.prog 50 [evD a,evD b] [] fun r H'=>r=D.bool (eqB a b)∧H'=[]:=by
 haveI:Kn (i0g a.defs):=⟨ha.df⟩
 haveI:Kn (i0g b.defs):=⟨hb.df⟩
 clear ha hb
 suffices hh:∀ Q:D→List Row→Prop,Q (D.bool (eqB a b)) []→Con Tryz.prog 50 [evD a,evD b] [] Q from hh _ ⟨rfl,rfl⟩
 intro Q hQ
 obtain ⟨a1,a2,a3,a4,a5,a6,a7,a8,a9⟩:=a
 obtain ⟨b1,b2,b3,b4,b5,b6,b7,b8,b9⟩:=b
 dsimp only at *
 have hf:¬ ((⟨a1,a2,a3,a4,a5,a6,a7,a8,a9⟩:Ev)=⟨b1,b2,b3,b4,b5,b6,b7,b8,b9⟩)→Q (D.bool false) []:=fun h=>by rw [c0k h] at hQ;exact hQ
 refine Con.walk good w0g (by simp) ?_
 unfold r0m
 simp only [a0I,evD]
 repeat' (with_reducible first|refine Wx.h ?_|refine Wb.h fun K hK=>?_|(refine hK _ ?_;clear hK K)|refine Wq.h ?_ ?_<;>intro h|((fail_if_success refine Wz.h ?_);simp (disch:=omega) only [↓LD,LA,a0A,seval,o0Q]))
 ·rename_i q1 q2 q3 q4 q5 q6 q7
  have q8:a8=b8:=by simpa using h
  have he:eqB (⟨a1,a2,a3,a4,a5,a6,a7,a8,a9⟩:Ev) ⟨b1,b2,b3,b4,b5,b6,b7,b8,b9⟩=eqB a9 b9:=by
   rw [q1,q2,q3,q4,q5,q6,q7,q8]
   by_cases e9:a9=b9
   ·rw [e9,e0N,e0N]
   ·rw [c0k e9,c0k (fun e=>e9 (Ev.mk.inj e).2.2.2.2.2.2.2.2)]
  rw [he] at hQ
  exact end1 rfl rfl (by kernel_rfl) .f hQ
 all_goals
  refine end1 rfl rfl (by kernel_rfl) .f (hf ?_)
  intro e;cases e;contradiction
instance {a b:Ev}{H:List Row}{K:Bool→D→List Row→Prop}[ha:Kn (FitV a)][hb:Kn (FitV b)]:Wa (a0j Tryz.prog (.fn 50 []) [eA a,eA b] H K) (K true (.f (.v (.bool (eqB a b)))) H):=⟨fun h=>a0O (z0X a b ha.h hb.h) rfl rfl rfl h⟩
def FitL (l:List Ev):Prop:=l.length≤1000000∧∀ e∈l,FitV e
set_option maxRecDepth 100000 in
theorem o0S (l m:List Ev)(hl:FitL l)(hm:FitL m):Con Tryz.prog 17 [.f (fEv l),.f (fEv m)] [] fun r H'=>r=D.bool (eqB l m)∧H'=[]:=by
 obtain ⟨hl,hln⟩:=hl
 obtain ⟨hm,hmn⟩:=hm
 refine Con.walk good n0f (by simp) ?_
 unfold g0f
 simp only [a0I]
 by_cases hlm:(l.length:Int)=m.length
 rotate_left
 ·repeat' (with_reducible first|refine Wx.h ?_|refine Wb.h fun K hK=>?_|(refine hK _ ?_;clear hK K)|(refine wF ?_ ?_;assumption)|((fail_if_success refine Wz.h ?_);simp (disch:=omega) only [↓LD,LA,a0A,seval,LEv]))
  rw [d0b hlm]
  exact end1 rfl rfl (by kernel_rfl) .f ⟨rfl,rfl⟩
 repeat' (with_reducible first|refine Wx.h ?_|refine Wb.h fun K hK=>?_|(refine hK _ ?_;clear hK K)|(refine wT ?_ ?_;assumption)|((fail_if_success refine Wz.h ?_);simp (disch:=omega) only [↓LD,LA,a0A,seval,LEv]))
 refine HS.loopG [0,1,5] (fun i:Nat=>⟨frm 27 [(0,.f (fEv l)),(1,.f (fEv m)),(5,D.int i)],[],[]⟩) (fun i=>i≤l.length∧l.take i=m.take i) (fun i=>l.length-i) 0 (by kernel_rfl) ⟨Nat.zero_le _,rfl⟩ ?_
 rintro i ⟨hi,ht⟩
 by_cases hil:i<l.length
 ·haveI:Kn (FitV (gt l i)):=⟨hln _ (a0K hil)⟩
  haveI:Kn (FitV (gt m i)):=⟨hmn _ (a0K (by omega))⟩
  by_cases e:gt l i=gt m i
  ·have hb:=d0h e
   repeat' (with_reducible first|refine Wx.h ?_|refine We.h fun K hK=>?_|(refine hK _ _ _ _ ?_;clear hK K;try clear hM M)|refine Wb.h fun K hK=>?_|(refine hK _ ?_;clear hK K)|(refine Wy.h ?_ ?_;kernel_rfl)|refine Wq.h ?_ ?_<;>intro h<;>try (exfalso;omega)|((fail_if_success refine Wz.h ?_);first|simp (disch:=omega) only [↓LD,LA,a0A,seval,LEv,b0O,a0N,Ev.cs,hb,-a0A]|(refine And.intro ?_ ?_;omega)|fail))
   exact Next.mk (i+1) (by kernel_rfl) ⟨by omega,b0o hlm hil ht e⟩ (by omega)
  ·have hb:=c0k e
   repeat' (with_reducible first|refine Wx.h ?_|refine We.h fun K hK=>?_|(refine hK _ _ _ _ ?_;clear hK K;try clear hM M)|refine Wb.h fun K hK=>?_|(refine hK _ ?_;clear hK K)|(refine Wy.h ?_ ?_;kernel_rfl)|refine Wq.h ?_ ?_<;>intro h<;>try (exfalso;omega)|((fail_if_success refine Wz.h ?_);first|simp (disch:=omega) only [↓LD,LA,a0A,seval,LEv,b0O,a0N,Ev.cs,hb,-a0A]|(refine And.intro ?_ ?_;omega)|fail))
   rw [f0b e]
   exact end1 rfl rfl (by kernel_rfl) .f ⟨rfl,rfl⟩
 ·repeat' (with_reducible first|refine Wx.h ?_|refine Wb.h fun K hK=>?_|(refine hK _ ?_;clear hK K)|refine Wq.h ?_ ?_<;>intro h<;>try (exfalso;omega)|((fail_if_success refine Wz.h ?_);simp (disch:=omega) only [↓LD,LA,a0A,seval,LEv]))
  rw [d0O hlm ht (by omega)]
  exact end1 rfl rfl (by kernel_rfl) .f ⟨rfl,rfl⟩
instance {a b:List Ev}{H:List Row}{K:D→List Row→Prop}[ha:Kn (FitL a)][hb:Kn (FitL b)]:Wa (a0S Tryz.prog (.fn 17 []) [.f (fEv a),.f (fEv b)] H K) (K (.f (.v (.bool (eqB a b)))) H):=⟨fun h=>a0C (o0S a b ha.h hb.h) rfl rfl rfl h⟩
noncomputable def begB (a b:List Ev):Bool:=decide (a.length≤b.length)&&eqB a (b.take a.length)
theorem j0A {H:List Row}{E:TypeId}{b:List Ev}{h:Nat}(hh:h≤b.length):subS H 9 E (.f (fEv b)) 0 h=some (.f (fEv (b.take h))):=by
 rw [fEv,m0Q,fEv,List.length_take,Nat.min_eq_left hh]
 have key:∀ (l:List Ev) (k:Nat),(l.flatMap Ev.cs).take (k*9)=(l.take k).flatMap Ev.cs:=by
  intro l
  induction l with
  | nil=>intro k;simp
  | cons e l ih =>
   intro k
   cases k with
   | zero=>simp
   | succ k =>
    rw [List.take_succ_cons,List.flatMap_cons,List.flatMap_cons,List.take_append,List.take_of_length_le (by rw [Ev.cs_len];omega),Ev.cs_len,show (k+1)*9-9=k*9 by omega,ih]
 simp [key]
abbrev Br:=List (List Ev)
def fBr (t:Br):F:=.s (t.map fEv) t.length
theorem t0d {g:Br}:slcS (.f (fBr g))=some g.length:=id rfl
theorem w0H {g:Br}{sz:Nat}{k:IntKind}{i:Int}{K:D→Prop}:idxS sz (.f (fBr g)) (.f (.v (.int k i))) K=((0≤i∧i<g.length)∧K (.rf ((g.map fEv).drop (i.toNat*sz)))):=id rfl
theorem m0u {P:Program}{H:List Row}{r off:Nat}{ds:List D}:c0o P H 1 (.pt r off) (.ag ds)=c0c P H 1 r off (.ag ds) H[r]?:=c0F
theorem c1S {H:List Row}{E:TypeId}{t:Br}{h:Nat}(hh:h≤t.length):subS H 1 E (.f (fBr t)) 0 h=some (.f (fBr (t.take h))):=by
 rw [fBr,m0Q,fBr,List.length_take,Nat.min_eq_left hh]
 simp [List.map_take]
theorem LBr:type_of% @t0d∧type_of% @w0H∧type_of% @m0u:=⟨@t0d,@w0H,@m0u⟩
theorem b1P {l:Br}{x:List Ev}:l.map fEv++[fEv x]=(l++[x]).map fEv:=by rw [List.map_append];rfl
def a0a (l:List Im):Im:=if l.length=0 then ⟨0,0⟩ else gt l (l.length-1)
def cmpI (a b:List Im):Int:=if (a0a a).ver<(a0a b).ver then -1 else if (a0a a).ver≠(a0a b).ver then 1 else if (a0a a).id<(a0a b).id then -1 else if (a0a b).id<(a0a a).id then 1 else 0
structure TrK (t:Br):Prop where
 len:t.length≤8
 ok:∀ b∈t,BrOk b∧b≠[]
theorem BrOk.fitL {l:List Ev}(h:BrOk l):FitL l:=⟨by have:=h.len;omega,h.fit⟩
theorem BrOk.idL {l:List Ev}(h:BrOk l):IdL l:=⟨by have:=h.len;omega,fun ne=>by
 have:=(rightE_iff.1 (h.right (a0K (Nat.pos_of_ne_zero fun e=>ne (List.eq_nil_of_length_eq_zero e))))).2.1
 omega⟩
theorem BrOk.ofK {l:List Ev}(h:BrOk l):(ofL l).length≤1000000:=by have:=h.len;have:=f1N l;omega
theorem TrK.gt {t:Br}(h:TrK t){i:Nat}(hi:i<t.length):BrOk (gt t i)∧gt t i≠[]:=h.ok _ (a0K hi)
theorem p0d {H:List Row}{b e:D}(hb:Vw H b b)(he:Vw H e e):Vw H (.tp [.ag [jN],b,e]) (.tp [.ag [.f (fBr [])],b,e]):=.tps (.cons (.ags (.cons .nil .nil)) (.cons hb (.cons he .nil)))
def b0d (b:List Ev):Int:=(gt b (b.length-1)).ver
def posK (l:List Ev):Br→Nat
 | []=>0
 | b :: t=>if 0<cmpI (ofL b) (ofL l) then posK l t+1 else 0
theorem b1f {l:List Ev}:∀ {t:Br},posK l t≤t.length
 | []=>Nat.le_refl _
 | b :: t=>by
  have:=b1f (l:=l) (t:=t)
  rw [posK,List.length_cons];split<;>omega
theorem BrOk.take {l:List Ev}(h:BrOk l)(n:Nat):BrOk (l.take n):=⟨l0z h.fold,fun e he=>h.fit e (List.mem_of_mem_take he),fun e he=>h.sig e (List.mem_of_mem_take he)⟩
theorem g1Y {H:List Row}{r n:Nat}{xs:List F}{l:List Ev}(hr:H[r]?=some (.data 73 xs))(hx:xs=l.flatMap Ev.cs)(hn:n=l.length):Vw H (.sl r 0 n) (.f (fEv l)):=by
 subst hx;subst hn
 exact .sl hr (fun e=>by rw [List.eq_nil_of_length_eq_zero e];rfl)
instance {steps:List Rw}{defs:List Rd}{H:List Row}{K:D→List Row→Prop}:Wa (a0S Tryz.prog (.fn 9 []) [.f (fRw steps),.f (fR defs)] H K) (K (.f (fEv (f0w [] steps defs))) H):=⟨fun h=>a0C (k0e steps defs) rfl rfl rfl h⟩
theorem f1T {H:List Row}{r n:Nat}{xs:List F}{t:Br}(hr:H[r]?=some (.data 25 xs))(hx:xs=t.map fEv)(hn:n=t.length):Vw H (.sl r 0 n) (.f (fBr t)):=by
 subst hx;subst hn
 exact .sl hr (fun e=>by rw [List.eq_nil_of_length_eq_zero e];rfl)
theorem begB_iff {a b:List Ev}:begB a b=true↔a <+: b:=by
 unfold begB
 rw [Bool.and_eq_true,decide_eq_true_eq,List.prefix_iff_eq_take]
 constructor
 ·rintro ⟨_,h⟩;exact u0v h
 ·intro h;exact ⟨by rw [h,List.length_take];omega,d0h h⟩
theorem begB_f {a b:List Ev}:begB a b=false↔¬ a <+: b:=by rw [←begB_iff,Bool.not_eq_true]
theorem f0x {α:Type}{l:List α}{n:Nat}(h0:0<n)(hn:n≤l.length):l.take n≠[]:=fun e=>by
 have:=congrArg List.length e
 rw [List.length_take,List.length_nil] at this;omega
theorem m0D {b:List Ev}{n:Nat}(h0:0<n)(hn:n≤b.length):b0d (b.take n)=(gt b (n-1)).ver:=by
 unfold b0d
 rw [List.length_take,Nat.min_eq_left hn,b0F (by rw [List.length_take];omega),b0F (by omega),List.getElem_take]
structure Uni (U:List Ev→Prop):Prop where
 ok:∀ {p},U p→BrOk p∧p≠[]
 down:∀ {p q},U p→q <+: p→q≠[]→U q
 comp:∀ {p q},U p→U q→b0d p=b0d q→p <+: q∨q <+: p
theorem g0M {l:List Im}{id v:Int}:a0a (b0p l id v)=⟨id,v⟩:=by
 unfold b0p
 split
 ·rename_i h
  unfold a0a
  rw [List.length_set,if_neg (by omega),b0F (by rw [List.length_set];omega),List.getElem_set_self]
 ·unfold a0a
  rw [if_neg (by simp),b0F (by simp)]
  simp
theorem v0q {first:Int}:∀ {vs:List Int} {i:Nat} {acc:List Im},vs≠[]→a0a (ofA first i vs acc)=⟨first+i+vs.length-1,gt vs (vs.length-1)⟩
 | [],i,acc,h=>absurd rfl h
 | [v],i,acc,_=>by
  rw [ofA,ofA,g0M]
  simp [gt]
 | v :: w :: vs,i,acc,_=>by
  rw [ofA,v0q (vs:=w :: vs) (by simp)]
  have e:gt (v :: w :: vs) ((v :: w :: vs).length-1)=gt (w :: vs) ((w :: vs).length-1):=by simp [gt]
  rw [e]
  congr 1
  simp only [List.length_cons];omega
theorem c0g {b:List Ev}(h:b≠[]):a0a (ofL b)=⟨(gt b 0).id+b.length-1,b0d b⟩:=by
 have hp:0<b.length:=List.length_pos_iff.2 h
 unfold ofL h0A
 rw [if_neg h,v0q (by simpa using h),List.length_map,Int.natCast_zero,Int.add_zero]
 congr 1
 unfold b0d
 rw [b0F (by rw [List.length_map];omega),b0F (by omega),List.getElem_map]
theorem v0K {a b:List Ev}(ha:a≠[])(hb:b≠[])(hn:b0d a≠b0d b):0<cmpI (ofL a) (ofL b)↔b0d b<b0d a:=by
 unfold cmpI
 rw [c0g ha,c0g hb]
 dsimp only
 (repeat' split)<;>omega
noncomputable def insU (x:List Ev)(o:Br):Br:=o.take (posK x o)++x :: o.drop (posK x o)
theorem insU_mem {x b:List Ev}{o:Br}:b∈insU x o↔b=x∨b∈o:=by
 unfold insU
 rw [List.mem_append,List.mem_cons]
 conv=>rhs;rw [←List.take_append_drop (posK x o) o,List.mem_append]
 constructor
 ·rintro (h|h|h)
  ·exact .inr (.inl h)
  ·exact .inl h
  ·exact .inr (.inr h)
 ·rintro (h|h|h)
  ·exact .inr (.inl h)
  ·exact .inl h
  ·exact .inr (.inr h)
noncomputable def addU (t:Br)(x:List Ev):Br:=if t.any (begB x)=true then t else insU x (t.filter fun b=>!begB b x)
structure TrU (U:List Ev→Prop)(t:Br):Prop where
 mem:∀ b∈t,U b
 lt:t.Pairwise fun a b=>b0d b<b0d a
 anti:∀ a∈t,∀ b∈t,a <+: b→a=b
theorem TrU.nil {U:List Ev→Prop}:TrU U []:=⟨fun b h=>by simp at h,.nil,fun a h=>by simp at h⟩
theorem any_beg {t:Br}{x:List Ev}:t.any (begB x)=true↔∃ b∈t,x <+: b:=by
 rw [List.any_eq_true]
 constructor
 ·rintro ⟨b,h1,h2⟩;exact ⟨b,h1,begB_iff.1 h2⟩
 ·rintro ⟨b,h1,h2⟩;exact ⟨b,h1,begB_iff.2 h2⟩
theorem mem_fil {t:Br}{x b:List Ev}:b∈t.filter (fun b=>!begB b x)↔b∈t∧¬ b <+: x:=by
 rw [List.mem_filter,Bool.not_eq_true',begB_f]
theorem Uni.tip {U:List Ev→Prop}(hu:Uni U){t:Br}(ht:TrU U t){x:List Ev}(hx:U x)(hk:¬ t.any (begB x)=true):∀ b∈t.filter (fun b=>!begB b x),b≠[]∧b0d b≠b0d x:=fun b hb=>by
 obtain ⟨h1,h2⟩:=mem_fil.1 hb
 refine ⟨(hu.ok (ht.mem b h1)).2,fun e=>?_⟩
 rcases hu.comp (ht.mem b h1) hx e with h|h
 ·exact h2 h
 ·exact hk (any_beg.2 ⟨b,h1,h⟩)
def Dn (t:Br)(p:List Ev):Prop:=∃ b∈t,p <+: b
theorem c1c {α:Type}{a b:List α}(h:a <+: b)(k:b <+: a):a=b:=h.eq_of_length (Nat.le_antisymm h.length_le k.length_le)
theorem g1d {U V:List Ev→Prop}(hu:Uni U)(hv:Uni V){t s:Br}(ht:TrU U t)(hs:TrU V s)(h:∀ p,p≠[]→(Dn t p↔Dn s p)):t=s:=by
 have key:∀ {U V:List Ev→Prop} {t s:Br},Uni U→TrU U t→TrU V s→(∀ p,p≠[]→(Dn t p↔Dn s p))→(∀ p,V p→p≠[])→∀ b∈t,b∈s:=by
  intro U V t s hu ht hs h hv b hb
  have hne:=(hu.ok (ht.mem b hb)).2
  obtain ⟨c,hc,h1⟩:=(h b hne).1 ⟨b,hb,List.prefix_refl b⟩
  obtain ⟨d,hd,h2⟩:=(h c (hv c (hs.mem c hc))).2 ⟨c,hc,List.prefix_refl c⟩
  obtain rfl:=ht.anti b hb d hd (h1.trans h2)
  rw [c1c h1 h2];exact hc
 have m1:=key hu ht hs h fun p hp=>(hv.ok hp).2
 have m2:=key hv hs ht (fun p hp=>(h p hp).symm) fun p hp=>(hu.ok hp).2
 have n1:t.Nodup:=ht.lt.imp fun h e=>by subst e;omega
 have n2:s.Nodup:=hs.lt.imp fun h e=>by subst e;omega
 exact List.Perm.eq_of_pairwise (le:=fun a b=>b0d b<b0d a) (fun a b _ _ h1 h2=>absurd h2 (by omega)) ht.lt hs.lt ((List.perm_ext_iff_of_nodup n1 n2).2 fun b=>⟨m1 b,m2 b⟩)
theorem z0x {α:Type}{p:α→Bool}:∀ {l:List α},l.length=(l.filter p).length+(l.filter fun b=>!p b).length
 | []=>rfl
 | a :: l=>by
  have:=z0x (p:=p) (l:=l)
  cases h:p a<;>simp [h]<;>omega
theorem d1Q:∀ {L:Br} {t:Br},t.Nodup→(∀ a∈t,∀ b∈t,a <+: b→a=b)→(∀ b∈t,∃ l∈L,b <+: l)→t.length≤L.length
 | [],t,_,_,h=>by
  cases t with
  | nil=>simp
  | cons b t=>obtain ⟨l,hl,_⟩:=h b (by simp);simp at hl
 | l :: L,t,hn,ha,h=>by
  have h1:(t.filter fun b=>begB b l).length≤1:=by
   have hn':=hn.sublist (List.filter_sublist (p:=fun b=>begB b l) (l:=t))
   have hm:∀ b∈t.filter (fun b=>begB b l),b∈t∧b <+: l:=fun b hb=>by rw [List.mem_filter,begB_iff] at hb;exact hb
   generalize t.filter (fun b=>begB b l)=f at *
   match f with
   | []=>simp
   | [_]=>simp
   | a :: b :: f =>
    obtain ⟨a1,a2⟩:=hm a (by simp)
    obtain ⟨b1,b2⟩:=hm b (by simp)
    have:a=b:=(List.prefix_or_prefix_of_prefix a2 b2).elim (ha a a1 b b1) fun h=>(ha b b1 a a1 h).symm
    subst this
    simp at hn'
  have h2:=d1Q (L:=L) (t:=t.filter fun b=>!begB b l) (hn.sublist List.filter_sublist) (fun a h1 b h2=>ha a (List.mem_filter.1 h1).1 b (List.mem_filter.1 h2).1) (fun b hb=>by
   obtain ⟨k1,k2⟩:=mem_fil.1 hb
   obtain ⟨m,hm,hb2⟩:=h b k1
   rcases List.mem_cons.1 hm with rfl|hm
   ·exact absurd hb2 k2
   ·exact ⟨m,hm,hb2⟩)
  have h3:=z0x (l:=t) (p:=fun b=>begB b l)
  rw [List.length_cons];omega
theorem TrU.nd {U:List Ev→Prop}{t:Br}(ht:TrU U t):t.Nodup:=ht.lt.imp fun h e=>by subst e;omega
theorem i0W:∀ {l:List Ev} {s:S12},(a0W s l).1=0→(∀ e,l.head?=some e→e.id=s.id+1∧s.ver≤e.ver∧s.time≤e.time)∧∀ i,i+1<l.length→(gt l (i+1)).id=(gt l i).id+1∧(gt l i).ver≤(gt l (i+1)).ver∧(gt l i).time≤(gt l (i+1)).time
 | [],_,_=>⟨by simp,by simp⟩
 | e :: l,s,h=>by
  rw [a0W] at h
  by_cases a:(a0G s e).1=0
  ·rw [if_pos a] at h
   obtain ⟨a1,a2,a3,a4,a5,a6,a7,a8⟩:=b0l a
   have ih:=i0W h
   refine ⟨fun e' he=>?_,fun i hi=>?_⟩
   ·cases he;exact ⟨a2,a3,a4⟩
   ·cases i with
    | zero =>
     cases l with
     | nil=>simp at hi
     | cons x l =>
      have:=ih.1 x rfl
      rw [a8] at this
      simpa [gt] using this
    | succ i =>
     have:=ih.2 i (by simpa using hi)
     simpa [gt] using this
  ·rw [if_neg a] at h;exact absurd h a
theorem y0l {l:List Ev}(h:BrOk l):∀ (j i:Nat),i≤j→j<l.length→(gt l i).ver≤(gt l j).ver
 | 0,i,hi,hj=>by (obtain rfl:i=0:=by omega);exact Int.le_refl _
 | j+1,i,hi,hj=>by
  by_cases e:i=j+1
  ·subst e;exact Int.le_refl _
  ·have h1:=y0l h j i (by omega) (by omega)
   have h2:=((i0W h.fold).2 j hj).2.1
   omega
theorem c1r {α:Type}{p l:List α}(hp:p <+: l):∃ n,n≤l.length∧p=l.take n:=⟨p.length,hp.length_le,List.prefix_iff_eq_take.1 hp⟩
theorem BrOk.pfx {p l:List Ev}(h:BrOk l)(hp:p <+: l):BrOk p:=by
 obtain ⟨n,_,rfl⟩:=c1r hp
 exact h.take _
def Bg (L:Br)(p:List Ev):Prop:=p≠[]∧∃ l∈L,p <+: l
end Go.Proofs.YthjgmldnegaaiaaGreatDoor.Mir
