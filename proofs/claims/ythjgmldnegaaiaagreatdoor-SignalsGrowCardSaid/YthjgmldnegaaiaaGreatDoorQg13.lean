/- Lemmas for the proof. No condition. -/
import Derived.Test.YthjgmldnegaaiaaGreatDoorQg12
set_option linter.unusedVariables false
set_option linter.unusedSimpArgs false
namespace Go.Proofs.YthjgmldnegaaiaaGreatDoor.Mir
open Go Go.RowKit
set_option maxHeartbeats 4000000
theorem HS.cutK {P:Program}{n:Nat}{c:SCode}{s:St}{Q:Out→St→Prop}(i:Nat){α:Type}(st:α→St)(p:α→Prop)
  (h1:∀ K:Out→St→Prop,(∀ y,p y→∀ s',View P n s' (st y)→K (.exit i) s')→(∀ s',Q .ret s'→K .ret s')→HS P n c s K) (h2:∀ y,p y→∀ s',View P n s' (st y)→Q (.exit i) s'):HS P n c s Q:=h1 Q h2 fun _ h=>h
theorem l0z {now:Int}:∀ {f g:Nat} {p:Pn} {n:Int},unf p.s.tms<f→unf p.s.tms<g→f0T now f p n=f0T now g p n
 | 0,_,_,_,h,_=>absurd h (by omega)
 | _,0,_,_,_,h=>absurd h (by omega)
 | f+1,g+1,p,n,hf,hg=>by
  rw [f0T,f0T]
  by_cases a1:p.s.closed≠0
  ·rw [if_pos a1,if_pos a1]
  rw [if_neg a1,if_neg a1]
  by_cases a2:d0P now p.s.tms 0 (-1) p.s.tms<0
  ·rw [if_pos a2,if_pos a2]
  rw [if_neg a2,if_neg a2]
  by_cases a3:(a0P p ⟨0,0,0,6,0,0,(gt p.s.tms (d0P now p.s.tms 0 (-1) p.s.tms).toNat).name,[],[]⟩).1≠0
  ·rw [if_pos a3,if_pos a3]
  rw [if_neg a3,if_neg a3]
  have:=l0X (Decidable.not_not.1 a3)
  exact l0z (by omega) (by omega)
set_option maxRecDepth 100000 in
theorem y0b (b:S12)(p:Pn)(h:PnOk b p):Con Tryz.prog 119 [.pt 0 0] [pnB p] fun r H'=>r=D.int (f0J p).1∧H'=[pnB (f0J p).2]:=by
  suffices hh:∀ Q:D→List Row→Prop,(∀ r H',r=D.int (f0J p).1→H'=[pnB (f0J p).2]→Q r H')→Con Tryz.prog 119 [.pt 0 0] [pnB p] Q from hh _ fun _ _ h1 h2=>⟨h1,h2⟩
  intro Q hQ
  unfold f0J at hQ
  refine Con.walk good t0T (by simp) ?_
  unfold m0D
  simp only [a0J,pnB,pnD]
  have hnl:=h.ok.wk.fit.fit.nodes
  generalize hN:max p.now p.s.time=N at hQ
  repeat' (with_reducible first|refine Wx.h ?_|refine We.h fun K hK=>?_|(refine hK _ _ _ _ ?_;clear hK K;try clear hM M)|refine Wb.h fun K hK=>?_|(refine hK _ ?_;clear hK K)|(refine Wy.h ?_ ?_;kernel_rfl)|((fail_if_success refine Wz.h ?_);simp (disch:=omega) only [↓LD,LA,a0A,seval,hN]))
  refine HS.cutK 0 (fun x:Pn × Int=>⟨frm 163 [(0,.pt 0 0),(3,D.int x.2),(4,D.int N)],[pnB x.1],[]⟩) (fun x=>PnOk b x.1∧0≤x.2∧x.2≤1000000∧d0K N p.s.nodes.length 0 p 0=(x.2,x.1,false)) ?_ ?_
  · intro K hx hr
    refine HS.loopG [0,3,4,5] (fun x:Nat × Pn × Int=>⟨frm 163 [(0,.pt 0 0),(3,D.int x.2.2),(4,D.int N),(5,D.int x.1)],[pnB x.2.1],[]⟩)
      (fun x=>x.1≤p.s.nodes.length∧x.2.1.s.nodes.length=p.s.nodes.length∧PnOk b x.2.1∧0≤x.2.2∧x.2.2≤x.1∧d0K N p.s.nodes.length 0 p 0=d0K N (p.s.nodes.length-x.1) x.1 x.2.1 x.2.2) (fun x=>p.s.nodes.length-x.1) (0,p,0) (by kernel_rfl) ⟨Nat.zero_le _,rfl,h,by simp,by simp,rfl⟩ ?_
    rintro ⟨i,⟨s,ver,now,out⟩,n⟩ ⟨hi,hl,ho,hn0,hn1,hF⟩
    dsimp only at hi hl ho hn0 hn1 hF
    by_cases hil:i<p.s.nodes.length
    · rw [show p.s.nodes.length-i=(p.s.nodes.length-(i+1))+1 by omega,d0K] at hF
      dsimp only at hF
      have hok:=ho.ok
      have hid:s.id≠0:=fun hh=>by have:=hok.wk.zero.2 hh;dsimp only at this;omega
      have hlen:=ho.len
      haveI:Kn (Ok12 s):=⟨hok⟩
      haveI:Kn (out.length≤1000000):=⟨by dsimp only at hlen;omega⟩
      have hw:=b0G (e:=⟨0,0,0,4,i,(gt s.nodes i).tr,[],[],[]⟩) ho (c0B (by simp) (by simp) c0Q)
      have hwl:=x0w (e:=⟨0,0,0,4,i,(gt s.nodes i).tr,[],[],[]⟩) ho (c0B (by simp) (by simp) c0Q) hid
      repeat' (with_reducible first|refine Wx.h ?_|refine Wb.h fun K hK=>?_|(refine hK _ ?_;clear hK K)|refine Wq.h ?_ ?_<;>intro h<;>try (exfalso;omega)|((fail_if_success refine Wz.h ?_);first|simp (disch:=omega) only [↓LD,LA,a0A,seval,LSt,pnB,pnD,c0v,a0k,Nn.cs,-a0A,List.map_cons,List.map_nil]|(refine And.intro ?_ ?_;omega)|fail))
      · rw [if_neg (fun hh=>hh (show s.closed=0 by assumption)),if_neg (fun hh=>hh (by assumption)),if_pos (by assumption)] at hF
        exact Next.mk (i+1,⟨s,ver,now,out⟩,n) (by kernel_rfl) ⟨by omega,hl,ho,hn0,by dsimp only;omega,hF⟩ (by dsimp only;omega)
      · have hz:(a0P ⟨s,ver,now,out⟩ ⟨0,0,0,4,i,(gt s.nodes i).tr,[],[],[]⟩).1=0:=by assumption
        rw [if_neg (fun hh=>hh (show s.closed=0 by assumption)),if_neg (fun hh=>hh (by assumption)),if_neg (by assumption),if_neg (fun hh=>hh hz)] at hF
        exact Next.mk (i+1,(a0P ⟨s,ver,now,out⟩ ⟨0,0,0,4,i,(gt s.nodes i).tr,[],[],[]⟩).2,n+1) (by kernel_rfl) ⟨by omega,hwl.trans hl,hw,by dsimp only;omega,by dsimp only;omega,hF⟩ (by dsimp only;omega)
      · have hz:(a0P ⟨s,ver,now,out⟩ ⟨0,0,0,4,i,(gt s.nodes i).tr,[],[],[]⟩).1≠0:=by assumption
        rw [if_neg (fun hh=>hh (show s.closed=0 by assumption)),if_neg (fun hh=>hh (by assumption)),if_neg (by assumption),if_pos hz] at hF
        rw [hF,if_pos rfl] at hQ
        refine hr _ ?_
        repeat' (with_reducible first|refine Wx.h ?_|fail)
        exact end1 rfl rfl (by kernel_rfl) .f (hQ _ _ rfl rfl)
      · rw [if_neg (fun hh=>hh (show s.closed=0 by assumption)),if_pos (by assumption)] at hF
        exact Next.mk (i+1,⟨s,ver,now,out⟩,n) (by kernel_rfl) ⟨by omega,hl,ho,hn0,by dsimp only;omega,hF⟩ (by dsimp only;omega)
      · rw [if_pos (show s.closed≠0 by assumption)] at hF
        exact hx (⟨s,ver,now,out⟩,n) ⟨ho,hn0,by dsimp only;omega,hF⟩ _ (View.sweep (keep:=[0,3,4]) (by kernel_rfl))
    · rw [show p.s.nodes.length-i=0 by omega,d0K] at hF
      repeat' (with_reducible first|refine Wx.h ?_|refine Wb.h fun K hK=>?_|(refine hK _ ?_;clear hK K)|refine Wq.h ?_ ?_<;>intro h<;>try (exfalso;omega)|((fail_if_success refine Wz.h ?_);simp (disch:=omega) only [↓LD,LA,a0A,seval,LSt,pnB,pnD]))
      exact hx (⟨s,ver,now,out⟩,n) ⟨ho,hn0,by dsimp only;omega,hF⟩ _ (View.sweep (keep:=[0,3,4]) (by kernel_rfl))
  · rintro ⟨q,n⟩ ⟨ho,hn0,hn1,hF⟩ s' hv
    refine e0h ?_
    refine o0Q ?_
    refine HS.view hv ?_
    clear hv
    dsimp only at ho hn0 hn1 hF ⊢
    rw [hF,if_neg (by simp)] at hQ
    dsimp only at hQ
    clear hF
    generalize hLL:f0T N (unf q.s.tms+1) q n=LL at hQ
    repeat' (with_reducible first|refine Wx.h ?_|fail)
    have hu0:=ho.ok.tms
    have hu1:∀ l:List Tm,unf l≤l.length:=fun l=>List.countP_le_length
    have hu2:=hu1 q.s.tms
    refine HS.loopG [0,3,4] (fun x:Pn × Int=>⟨frm 163 [(0,.pt 0 0),(3,D.int x.2),(4,D.int N)],[pnB x.1],[]⟩)
      (fun x=>PnOk b x.1∧0≤x.2∧x.2+unf x.1.s.tms≤2000000∧LL=f0T N (unf x.1.s.tms+1) x.1 x.2) (fun x=>unf x.1.s.tms) (q,n) (by kernel_rfl) ⟨ho,hn0,by dsimp only;omega,hLL.symm⟩ ?_
    clear ho hn0 hn1 hu0 hu2 hLL
    rintro ⟨⟨s,ver,now,out⟩,m⟩ ⟨ho,hn0,hn1,hF⟩
    dsimp only at ho hn0 hn1 hF
    have hok:=ho.ok
    dsimp only at hok
    have hlen:=ho.len
    haveI:Kn (Ok12 s):=⟨hok⟩
    haveI:Kn (out.length≤1000000):=⟨by dsimp only at hlen;omega⟩
    have htl:=hok.tms
    rw [f0T] at hF
    repeat' (with_reducible first|refine Wx.h ?_|refine Wb.h fun K hK=>?_|(refine hK _ ?_;clear hK K)|refine Wq.h ?_ ?_<;>intro h|((fail_if_success refine Wz.h ?_);simp (disch:=omega) only [↓LD,LA,a0A,seval,LSt,pnB,pnD]))
    rotate_left
    · rw [if_pos (show s.closed≠0 by assumption)] at hF
      rw [hF] at hQ
      exact end1 rfl rfl (by kernel_rfl) .f (hQ _ _ rfl rfl)
    have hcl:s.closed=0:=by assumption
    rw [if_neg (fun hh=>hh hcl)] at hF
    refine HS.loopG [0,3,4,7,8] (fun x:Nat × Int=>⟨frm 163 [(0,.pt 0 0),(3,D.int m),(4,D.int N),(7,D.int x.2),(8,D.int x.1)],[pnB ⟨s,ver,now,out⟩],[]⟩)
      (fun x=>x.1≤s.tms.length ∧ -1≤x.2∧x.2<x.1∧d0P N s.tms 0 (-1) s.tms=d0P N s.tms x.1 x.2 (s.tms.drop x.1)) (fun x=>s.tms.length-x.1) (0,-1) (by kernel_rfl) ⟨Nat.zero_le _,by simp,by simp,rfl⟩ ?_
    rintro ⟨j,k⟩ ⟨hj,hk0,hk1,hP⟩
    dsimp only at hj hk0 hk1 hP
    by_cases hjl:j<s.tms.length
    · rw [a0I hjl,d0P] at hP
      have hbT:befT (gt s.tms j) (gt s.tms k.toNat)=true↔(gt s.tms j).due<(gt s.tms k.toNat).due∨((gt s.tms j).due=(gt s.tms k.toNat).due∧Op.bytesLess (BB (gt s.tms j).name).toList (BB (gt s.tms k.toNat).name).toList=true):=by simp only [befT,h1f,Bool.or_eq_true,Bool.and_eq_true,decide_eq_true_eq]
      repeat' (with_reducible first|refine Wx.h ?_|refine We.h fun K hK=>?_|refine Wd.h fun K M hK hM=>?_|(refine hK _ _ _ _ ?_;clear hK K;try clear hM M)|(refine hM ?_;clear hM M;try clear hK K)|refine Wb.h fun K hK=>?_|(refine hK _ ?_;clear hK K)|(refine Wy.h ?_ ?_;kernel_rfl)|refine Wq.h ?_ ?_<;>intro h<;>try (exfalso;omega)|refine Wu.h ?_ ?_<;>intro h<;>try simp only [h]|((fail_if_success refine Wz.h ?_);first|simp (disch:=omega) only [↓LD,LA,a0A,seval,LSt,pnB,pnD,h0v,f0H,g0g,k0k,Tm.cs,-a0A,List.map_cons,List.map_nil]|(refine And.intro ?_ ?_;omega)|fail))
      all_goals first
        | (rw [if_pos (show (gt s.tms j).fired=true by assumption)] at hP
           exact Next.mk (j+1,k) (by kernel_rfl) ⟨by dsimp only;omega,hk0,by dsimp only;omega,hP⟩ (by dsimp only;omega))
        | (rw [if_neg (by rw [show (gt s.tms j).fired=false by assumption];simp),if_pos (show N<(gt s.tms j).due by assumption)] at hP
           exact Next.mk (j+1,k) (by kernel_rfl) ⟨by dsimp only;omega,hk0,by dsimp only;omega,hP⟩ (by dsimp only;omega))
        | (rw [if_neg (by rw [show (gt s.tms j).fired=false by assumption];simp),if_neg (show ¬ N<(gt s.tms j).due by assumption),if_pos (.inl (show k<0 by assumption))] at hP
           exact Next.mk (j+1,(j:Int)) (by kernel_rfl) ⟨by dsimp only;omega,by dsimp only;omega,by dsimp only;omega,hP⟩ (by dsimp only;omega))
        | (rw [if_neg (by rw [show (gt s.tms j).fired=false by assumption];simp),if_neg (show ¬ N<(gt s.tms j).due by assumption),if_pos (.inr (hbT.2 (.inl (show (gt s.tms j).due<(gt s.tms k.toNat).due by assumption))))] at hP
           exact Next.mk (j+1,(j:Int)) (by kernel_rfl) ⟨by dsimp only;omega,by dsimp only;omega,by dsimp only;omega,hP⟩ (by dsimp only;omega))
        | (rw [if_neg (by rw [show (gt s.tms j).fired=false by assumption];simp),if_neg (show ¬ N<(gt s.tms j).due by assumption),if_pos (.inr (hbT.2 (.inr ⟨show (gt s.tms j).due=(gt s.tms k.toNat).due by assumption,show Op.bytesLess (BB (gt s.tms j).name).toList (BB (gt s.tms k.toNat).name).toList=true by assumption⟩)))] at hP
           exact Next.mk (j+1,(j:Int)) (by kernel_rfl) ⟨by dsimp only;omega,by dsimp only;omega,by dsimp only;omega,hP⟩ (by dsimp only;omega))
        | (rw [if_neg (by rw [show (gt s.tms j).fired=false by assumption];simp),if_neg (show ¬ N<(gt s.tms j).due by assumption),if_neg (fun hh=>hh.elim (show ¬ k<0 by assumption) (fun hb=>(hbT.1 hb).elim (show ¬ (gt s.tms j).due<(gt s.tms k.toNat).due by assumption) (fun he=>(show ¬ (gt s.tms j).due=(gt s.tms k.toNat).due by assumption) he.1)))] at hP
           exact Next.mk (j+1,k) (by kernel_rfl) ⟨by dsimp only;omega,hk0,by dsimp only;omega,hP⟩ (by dsimp only;omega))
        | (rw [if_neg (by rw [show (gt s.tms j).fired=false by assumption];simp),if_neg (show ¬ N<(gt s.tms j).due by assumption),if_neg (fun hh=>hh.elim (show ¬ k<0 by assumption) (fun hb=>(hbT.1 hb).elim (show ¬ (gt s.tms j).due<(gt s.tms k.toNat).due by assumption) (fun he=>(show ¬ Op.bytesLess (BB (gt s.tms j).name).toList (BB (gt s.tms k.toNat).name).toList=true by assumption) he.2)))] at hP
           exact Next.mk (j+1,k) (by kernel_rfl) ⟨by dsimp only;omega,hk0,by dsimp only;omega,hP⟩ (by dsimp only;omega))
    · rw [List.drop_of_length_le (by omega),d0P] at hP
      rw [hP] at hF
      have hn16:0≤k→(gt s.tms k.toNat).name.length≤16:=fun hk=>hok.tname _ (a0M (l:=s.tms) (k:=k.toNat) (by omega))
      by_cases hkz:k<0
      · repeat' (with_reducible first|refine Wx.h ?_|refine Wb.h fun K hK=>?_|(refine hK _ ?_;clear hK K)|(refine wT ?_ ?_;assumption)|refine Wq.h ?_ ?_<;>intro h<;>try (exfalso;omega)|((fail_if_success refine Wz.h ?_);simp (disch:=omega) only [↓LD,LA,a0A,seval,LSt,pnB,pnD,h0v,f0H,g0g,k0k,Tm.cs,-a0A,List.map_cons,List.map_nil]))
        rw [if_pos hkz] at hF
        rw [hF] at hQ
        exact end1 rfl rfl (by kernel_rfl) .f (hQ _ _ rfl rfl)
      rw [if_neg hkz] at hF
      have hn17:=hn16 (by omega)
      haveI:Kn ((gt s.tms k.toNat).name.length≤1000000):=⟨by omega⟩
      have hw:=b0G (e:=⟨0,0,0,6,0,0,(gt s.tms k.toNat).name,[],[]⟩) ho (c0B (by omega) (by simp) c0Q)
      have hwu:=l0X (p:=⟨s,ver,now,out⟩) (nm:=(gt s.tms k.toNat).name)
      have hu2:=hu1 s.tms
      repeat' (with_reducible first|refine Wx.h ?_|refine Wb.h fun K hK=>?_|(refine hK _ ?_;clear hK K)|(refine wF ?_ ?_;assumption)|refine Wq.h ?_ ?_<;>intro h<;>try (exfalso;omega)|((fail_if_success refine Wz.h ?_);first|simp (disch:=omega) only [↓LD,LA,a0A,seval,LSt,pnB,pnD,h0v,f0H,g0g,k0k,Tm.cs,-a0A,List.map_cons,List.map_nil]|(refine And.intro ?_ ?_;omega)|fail))
      · have hz:(a0P ⟨s,ver,now,out⟩ ⟨0,0,0,6,0,0,(gt s.tms k.toNat).name,[],[]⟩).1=0:=by assumption
        have hwu:=hwu hz
        dsimp only at hwu hn1
        rw [if_neg (fun hh=>hh hz)] at hF
        refine Next.mk ((a0P ⟨s,ver,now,out⟩ ⟨0,0,0,6,0,0,(gt s.tms k.toNat).name,[],[]⟩).2,m+1) (by kernel_rfl) ⟨hw,by dsimp only;omega,by dsimp only;omega,?_⟩ (by dsimp only;omega)
        dsimp only
        rw [hF]
        exact l0z hwu (Nat.lt_succ_self _)
      · have hz:(a0P ⟨s,ver,now,out⟩ ⟨0,0,0,6,0,0,(gt s.tms k.toNat).name,[],[]⟩).1≠0:=by assumption
        rw [if_pos hz] at hF
        rw [hF] at hQ
        exact end1 rfl rfl (by kernel_rfl) .f (hQ _ _ rfl rfl)
instance {s:S12}{ver now:Int}{out:List Ev}{H:List Row}{K:D→List Row→Prop}{ds:List Nd}[ho:Kn (Ok12 s)][hl:Kn (out.length≤1000000)][k1:Kn (Fit ds)] :
  Wa (a0T Tryz.prog (.fn 89 []) [.pt 0 0,.f (fG ds)] (.box 121 [.f (.v (.int .i64 s.id)),.f (.v (.int .i64 s.ver)),.f (.v (.int .i64 s.time)),.f (.v (.int .i64 s.closed)),.f (.v (.bool s.cancel)),.f (fG s.defs),.f (fNn s.nodes),.f (fTm s.tms),.f (fSg s.sgs),.f (.v (.int .i64 ver)),.f (.v (.int .i64 now)),.f (fEv out)] :: H) K) (K (.f (.v (.int .i64 (b0m ⟨s,ver,now,out⟩ ds).1))) (pnB (b0m ⟨s,ver,now,out⟩ ds).2 :: H)):=⟨fun h =>
 b0q (f0B ⟨s,ver,now,out⟩ ds ho.h hl.h k1.h) rfl rfl (fun _=>rfl) (fun _=>rfl) (fun _=>rfl) (fun _=>rfl) h⟩
instance {s:S12}{ver now:Int}{out:List Ev}{H:List Row}{K:D→List Row→Prop}  [ho:Kn (Ok12 s)][hl:Kn (out.length≤1000000)] :
  Wa (a0T Tryz.prog (.fn 115 []) [.pt 0 0] (.box 121 [.f (.v (.int .i64 s.id)),.f (.v (.int .i64 s.ver)),.f (.v (.int .i64 s.time)),.f (.v (.int .i64 s.closed)),.f (.v (.bool s.cancel)),.f (fG s.defs),.f (fNn s.nodes),.f (fTm s.tms),.f (fSg s.sgs),.f (.v (.int .i64 ver)),.f (.v (.int .i64 now)),.f (fEv out)] :: H) K) (K (.tp [.f (.v (.int .i64 (b0r ⟨s,ver,now,out⟩).1.1)),.f (.v (.int .i64 (b0r ⟨s,ver,now,out⟩).1.2.1)),.f (.v (.int .i64 (b0r ⟨s,ver,now,out⟩).1.2.2))]) (pnB (b0r ⟨s,ver,now,out⟩).2 :: H)):=⟨fun h =>
 b0q (u0V ⟨s,ver,now,out⟩ ho.h hl.h) rfl rfl (fun _=>rfl) (fun _=>rfl) (fun _=>rfl) (fun _=>rfl) h⟩
instance {s:S12}{ver now:Int}{out:List Ev}{H:List Row}{K:Bool→D→List Row→Prop}{i t:Int}{ok:Bool}{d:Bs}[ho:Kn (Ok12 s)][hl:Kn (out.length≤1000000)][k1:Kn (d.length≤1000000)] :
  Wa (a0m Tryz.prog (.fn 116 []) [.pt 0 0,.f (.v (.int .i64 i)),.f (.v (.int .i64 t)),.f (.v (.bool ok)),.f (fY d)] (.box 121 [.f (.v (.int .i64 s.id)),.f (.v (.int .i64 s.ver)),.f (.v (.int .i64 s.time)),.f (.v (.int .i64 s.closed)),.f (.v (.bool s.cancel)),.f (fG s.defs),.f (fNn s.nodes),.f (fTm s.tms),.f (fSg s.sgs),.f (.v (.int .i64 ver)),.f (.v (.int .i64 now)),.f (fEv out)] :: H) K) (K true (.f (.v (.int .i64 (b0M ⟨s,ver,now,out⟩ i t ok d).1))) (pnB (b0M ⟨s,ver,now,out⟩ i t ok d).2 :: H)):=⟨fun h =>
 g0k (s0P ⟨s,ver,now,out⟩ i t ok d ho.h hl.h k1.h) rfl rfl (fun _=>rfl) (fun _=>rfl) (fun _=>rfl) (fun _=>rfl) h⟩
instance {s:S12}{ver now:Int}{out:List Ev}{H:List Row}{K:Bool→D→List Row→Prop}{nm:Bs}{t:Int}[ho:Kn (Ok12 s)][hl:Kn (out.length≤1000000)][k1:Kn (nm.length≤1000000)] :
  Wa (a0m Tryz.prog (.fn 118 []) [.pt 0 0,.f (.v (.string (BB nm))),.f (.v (.int .i64 t))] (.box 121 [.f (.v (.int .i64 s.id)),.f (.v (.int .i64 s.ver)),.f (.v (.int .i64 s.time)),.f (.v (.int .i64 s.closed)),.f (.v (.bool s.cancel)),.f (fG s.defs),.f (fNn s.nodes),.f (fTm s.tms),.f (fSg s.sgs),.f (.v (.int .i64 ver)),.f (.v (.int .i64 now)),.f (fEv out)] :: H) K) (K true (.f (.v (.int .i64 (armP ⟨s,ver,now,out⟩ nm t).1))) (pnB (armP ⟨s,ver,now,out⟩ nm t).2 :: H)):=⟨fun h =>
 g0k (b1x ⟨s,ver,now,out⟩ nm t ho.h hl.h k1.h) rfl rfl (fun _=>rfl) (fun _=>rfl) (fun _=>rfl) (fun _=>rfl) h⟩
instance {s:S12}{ver now:Int}{out:List Ev}{H:List Row}{K:Bool→D→List Row→Prop}{nm d:Bs}[ho:Kn (Ok12 s)][hl:Kn (out.length≤1000000)][k1:Kn (nm.length≤1000000)][k2:Kn (d.length≤1000000)] :
  Wa (a0m Tryz.prog (.fn 91 []) [.pt 0 0,.f (.v (.string (BB nm))),.f (fY d)] (.box 121 [.f (.v (.int .i64 s.id)),.f (.v (.int .i64 s.ver)),.f (.v (.int .i64 s.time)),.f (.v (.int .i64 s.closed)),.f (.v (.bool s.cancel)),.f (fG s.defs),.f (fNn s.nodes),.f (fTm s.tms),.f (fSg s.sgs),.f (.v (.int .i64 ver)),.f (.v (.int .i64 now)),.f (fEv out)] :: H) K) (K true (.tp [.f (.v (.bool (a0u ⟨s,ver,now,out⟩ nm d).1.1)),.f (.v (.int .i64 (a0u ⟨s,ver,now,out⟩ nm d).1.2))]) (pnB (a0u ⟨s,ver,now,out⟩ nm d).2 :: H)):=⟨fun h =>
 g0k (e0M ⟨s,ver,now,out⟩ nm d ho.h hl.h k1.h k2.h) rfl rfl (fun _=>rfl) (fun _=>rfl) (fun _=>rfl) (fun _=>rfl) h⟩
instance {s:S12}{ver now:Int}{out:List Ev}{H:List Row}{K:D→List Row→Prop}  [ho:Kn (Ok12 s)][hl:Kn (out.length≤1000000)] :
  Wa (a0T Tryz.prog (.fn 120 []) [.pt 0 0] (.box 121 [.f (.v (.int .i64 s.id)),.f (.v (.int .i64 s.ver)),.f (.v (.int .i64 s.time)),.f (.v (.int .i64 s.closed)),.f (.v (.bool s.cancel)),.f (fG s.defs),.f (fNn s.nodes),.f (fTm s.tms),.f (fSg s.sgs),.f (.v (.int .i64 ver)),.f (.v (.int .i64 now)),.f (fEv out)] :: H) K) (K (.f (.v (.int .i64 (b0Z ⟨s,ver,now,out⟩).1))) (pnB (b0Z ⟨s,ver,now,out⟩).2 :: H)):=⟨fun h =>
 b0q (q0r ⟨s,ver,now,out⟩ ho.h hl.h) rfl rfl (fun _=>rfl) (fun _=>rfl) (fun _=>rfl) (fun _=>rfl) h⟩
instance {s:S12}{ver now:Int}{out:List Ev}{H:List Row}{K:D→List Row→Prop}  [ho:Kn (Ok12 s)][hl:Kn (out.length≤1000000)] :
  Wa (a0T Tryz.prog (.fn 121 []) [.pt 0 0] (.box 121 [.f (.v (.int .i64 s.id)),.f (.v (.int .i64 s.ver)),.f (.v (.int .i64 s.time)),.f (.v (.int .i64 s.closed)),.f (.v (.bool s.cancel)),.f (fG s.defs),.f (fNn s.nodes),.f (fTm s.tms),.f (fSg s.sgs),.f (.v (.int .i64 ver)),.f (.v (.int .i64 now)),.f (fEv out)] :: H) K) (K (.f (.v (.int .i64 (e0m ⟨s,ver,now,out⟩).1))) (pnB (e0m ⟨s,ver,now,out⟩).2 :: H)):=⟨fun h =>
 b0q (i0i ⟨s,ver,now,out⟩ ho.h hl.h) rfl rfl (fun _=>rfl) (fun _=>rfl) (fun _=>rfl) (fun _=>rfl) h⟩
instance {s:S12}{ver now:Int}{out:List Ev}{H:List Row}{K:D→List Row→Prop}[ho:Kn (Ok12 s)][hl:Kn (out.length≤1000000)][k1:Kn (∃ b,PnOk b ⟨s,ver,now,out⟩)] :
  Wa (a0T Tryz.prog (.fn 119 []) [.pt 0 0] (.box 121 [.f (.v (.int .i64 s.id)),.f (.v (.int .i64 s.ver)),.f (.v (.int .i64 s.time)),.f (.v (.int .i64 s.closed)),.f (.v (.bool s.cancel)),.f (fG s.defs),.f (fNn s.nodes),.f (fTm s.tms),.f (fSg s.sgs),.f (.v (.int .i64 ver)),.f (.v (.int .i64 now)),.f (fEv out)] :: H) K) (K (.f (.v (.int .i64 (f0J ⟨s,ver,now,out⟩).1))) (pnB (f0J ⟨s,ver,now,out⟩).2 :: H)):=⟨fun h =>
 b0q (k1.h.elim fun b hb=>y0b b ⟨s,ver,now,out⟩ hb) rfl rfl (fun _=>rfl) (fun _=>rfl) (fun _=>rfl) (fun _=>rfl) h⟩
def SgN (e:Ev):Prop:=e.ty=7→∃ a r,e.name=a0r a++r
def PnS (p:Pn):Prop:=∀ e∈p.out,SgN e
theorem c0Z {p:Pn}{e:Ev}(h:PnS p)(he:SgN e):PnS (a0P p e).2:=by
 have hn:SgN (a0W p e):=he
 rcases e0P p e with ⟨_,h2⟩|⟨_,_,h2,_,h3⟩|⟨_,_,h2,_,f,hf,h3,h4⟩
 ·rw [h2];exact h
 ·rw [h3]
  intro x hx
  rcases List.mem_append.1 hx with hx|hx
  ·exact h x hx
  ·obtain rfl:=List.mem_singleton.1 hx;exact hn
 ·rw [h4]
  intro x hx
  rcases List.mem_append.1 hx with hx|hx
  ·exact h x hx
  ·rcases List.mem_cons.1 hx with rfl|hx
   ·exact hn
   ·obtain rfl:=List.mem_singleton.1 hx
    intro ht
    have hk:=g0c (a0H p.s (a0W p e)).2
    have hft:x.ty=a0Y (a0H p.s (a0W p e)).2:=by rw [hf];try rfl
    omega
theorem h0I {e:Ev}(h:e.ty≠7):SgN e:=fun hh=>absurd hh h
structure PnT (b:S12)(p:Pn):Prop where
 ok:PnOk b p
 sg:PnS p
theorem v0V {b:S12}{p:Pn}{ds:List Nd}(h:PnT b p)(hd:Fit ds):PnT b (b0m p ds).2:=by
 refine ⟨a1g h.ok hd,?_⟩
 unfold b0m
 repeat' split
 all_goals first|exact h.sg|exact c0Z h.sg (h0I (by simp))
theorem u0k {b:S12}{p:Pn}(h:PnT b p):PnT b (b0r p).2:=by
 refine ⟨z0l h.ok,?_⟩
 unfold b0r
 repeat' split
 all_goals first|exact h.sg|exact c0Z h.sg (h0I (by simp))
theorem q0K {b:S12}{p:Pn}{i t:Int}{ok:Bool}{d:Bs}(h:PnT b p)(hd:d.length≤1000000):PnT b (b0M p i t ok d).2:=by
 refine ⟨y0O h.ok hd,?_⟩
 unfold b0M
 repeat' split
 all_goals first|exact h.sg|exact c0Z h.sg (h0I (by simp))
theorem i1P {b:S12}{p:Pn}{nm:Bs}{t:Int}(h:PnT b p)(hn:nm.length≤1000000):PnT b (armP p nm t).2:=by
 refine ⟨g1q h.ok hn,?_⟩
 unfold armP
 repeat' split
 all_goals first|exact h.sg|exact c0Z h.sg (h0I (by simp))
theorem q0y {b:S12}{p:Pn}{x y:Int}{d:Bs}(h:PnT b p)(hn:(a0r x++a0r y).length≤1000000)(hd:d.length≤1000000):PnT b (a0u p (a0r x++a0r y) d).2:=by
 refine ⟨z0B h.ok hn hd,?_⟩
 unfold a0u
 repeat' split
 all_goals first|exact h.sg|exact c0Z h.sg (fun _=>⟨x,a0r y,rfl⟩)
theorem c1M {b:S12}{p:Pn}(h:PnT b p):PnT b (b0Z p).2:=by
 refine ⟨y0p h.ok,?_⟩
 unfold b0Z
 repeat' split
 all_goals first|exact h.sg|exact c0Z h.sg (h0I (by simp))
theorem h1D {b:S12}{p:Pn}(h:PnT b p):PnT b (e0m p).2:=by
 refine ⟨d1d h.ok,?_⟩
 unfold e0m
 repeat' split
 all_goals first|exact h.sg|exact c0Z h.sg (h0I (by simp))
theorem k0X {now:Int}:∀ {k i:Nat} {p:Pn} {n:Int},PnS p→PnS (d0K now k i p n).2.1
 | 0,_,_,_,h=>h
 | k+1,i,p,n,h=>by
  rw [d0K]
  have hw:=c0Z (e:=⟨0,0,0,4,i,(gt p.s.nodes i).tr,[],[],[]⟩) h (h0I (by simp))
  split
  ·exact h
  ·split
   ·exact k0X h
   ·split
    ·exact k0X h
    ·split
     ·exact hw
     ·exact k0X hw
theorem b1d {now:Int}:∀ {f:Nat} {p:Pn} {n:Int},PnS p→PnS (f0T now f p n).2
 | 0,_,_,h=>h
 | f+1,p,n,h=>by
  rw [f0T]
  split
  ·exact h
  ·split
   ·exact h
   ·have hw:=c0Z (e:=⟨0,0,0,6,0,0,(gt p.s.tms (d0P now p.s.tms 0 (-1) p.s.tms).toNat).name,[],[]⟩) h (h0I (by simp))
    split
    ·exact hw
    ·exact b1d hw
theorem g1T {b:S12}{p:Pn}(h:PnT b p):PnT b (f0J p).2:=by
 refine ⟨d1f h.ok,?_⟩
 unfold f0J
 split
 ·exact k0X h.sg
 ·exact b1d (k0X h.sg)
theorem a1P {a b:Bs}:BB a++BB b=BB (a++b):=by
 apply ByteArray.ext
 rw [ByteArray.data_append]
 simp [BB]
def finA (p:Pn)(x:Rw):Nat→Nat→Pn
 | 0,_=>(b0r p).2
 | f+1,i=>if (gt p.s.nodes i).st=1 then (if 0<x.a.tmod 4 then (b0M p i (gt p.s.nodes i).tr true (fewL x.data 40)).2 else (b0M p i (gt p.s.nodes i).tr false (fewL x.data 0)).2) else finA p x f (i+1)
def e0z (p:Pn)(x:Rw)(l:List Rd):Pn :=
 if p.s.id=0 then (b0m p (c0W l)).2
 else if pick x.what 16≤4 then (b0r p).2
 else if pick x.what 16≤8 then finA p x p.s.nodes.length 0
 else if pick x.what 16≤9 then (armP p (a0r x.a) (1+pick x.b 9)).2
 else if pick x.what 16≤12 then (a0u p (a0r x.a++a0r x.b) (fewL x.data 40)).2
 else if pick x.what 16≤14 then (f0J p).2
 else if x.b.tmod 4=0 then (b0Z p).2 else if x.b.tmod 29=28 then (e0m p).2 else p
theorem c1Q {b:Bs}{n:Int}(h:0≤n)(hn:n≤1000):(fewL b n).length≤1000000:=by have:=i0D (b:=b) (n:=n) h;omega
theorem c1e (a b:Int):(a0r a++a0r b).length≤1000000:=by have:=a0y a;have:=a0y b;rw [List.length_append];omega
theorem f1I {b:S12}{p:Pn}{x:Rw}(h:PnT b p):∀ {f i:Nat},PnT b (finA p x f i)
 | 0,_=>u0k h
 | f+1,i=>by
  rw [finA]
  split
  ·split
   ·exact q0K h (c1Q (by omega) (by omega))
   ·exact q0K h (c1Q (by omega) (by omega))
  ·exact f1I h
theorem t0E {b:S12}{p:Pn}{x:Rw}{l:List Rd}(h:PnT b p):PnT b (e0z p x l):=by
 have hd:=c0O l
 unfold e0z
 repeat' split
 ·exact v0V h (hd.1.fit hd.2.2)
 ·exact u0k h
 ·exact f1I h
 ·exact i1P h (by have:=a0y x.a;omega)
 ·exact q0y h (c1e _ _) (c1Q (by omega) (by omega))
 ·exact g1T h
 ·exact c1M h
 ·exact h1D h
 ·exact h
set_option maxRecDepth 100000 in
theorem h0k (b:S12)(p:Pn)(x:Rw)(l:List Rd)(hp:PnT b p):Con Tryz.prog 73 [.pt 0 0,rwD x,.f (fR l)] [pnB p] fun r H'=>r = .tp []∧H'=[pnB (e0z p x l)]:=by
 obtain ⟨s,ver,now,out⟩:=p
 suffices hh:∀ Q:D→List Row→Prop,(∀ p',e0z ⟨s,ver,now,out⟩ x l=p'→Q (.tp []) [pnB p'])→Con Tryz.prog 73 [.pt 0 0,rwD x,.f (fR l)] [pnB ⟨s,ver,now,out⟩] Q from hh _ fun p' h=>⟨rfl,by rw [h]⟩
 intro Q hQ
 have hE:e0z ⟨s,ver,now,out⟩ x l=e0z ⟨s,ver,now,out⟩ x l:=rfl
 conv at hE=>rhs;unfold e0z
 dsimp only at hE
 have ho:Ok12 s:=hp.ok.ok
 have hl:out.length≤200:=hp.ok.len
 haveI:Kn (Ok12 s):=⟨ho⟩
 haveI:Kn (Wk12 s):=⟨ho.wk⟩
 haveI:Kn (out.length≤1000000):=⟨by omega⟩
 refine Con.walk good r0H (by simp) ?_
 unfold k0p
 simp only [a0J,pnB,pnD,rwD]
 have hf1:=i0D (b:=x.data) (n:=40) (by omega)
 have hf2:=i0D (b:=x.data) (n:=0) (by omega)
 haveI:Kn ((fewL x.data 40).length≤1000000):=⟨by omega⟩
 haveI:Kn ((fewL x.data 0).length≤1000000):=⟨by omega⟩
 haveI:Kn ((a0r x.a).length≤1000000):=⟨by have:=a0y x.a;omega⟩
 haveI:Kn (∃ b,PnOk b ⟨s,ver,now,out⟩):=⟨b,hp.ok⟩
 by_cases hz:s.id=0
 ·repeat' (with_reducible first|refine Wx.h ?_|refine Wb.h fun K hK=>?_|(refine hK _ ?_;clear hK K)|(refine wT ?_ ?_;assumption)|((fail_if_success refine Wz.h ?_);simp (disch:=omega) only [↓LD,LA,a0A,seval]))
  refine a0D (d0f l) [] (by kernel_rfl) rfl rfl ?_
  rintro _ _ ⟨rfl,rfl⟩
  have hd:=c0O l
  haveI:Kn (Fit (c0W l)):=⟨hd.1.fit hd.2.2⟩
  simp (disch:=omega) only [↓LD,LA,a0A,seval,ren,List.getElem?_nil]
  repeat' (with_reducible first|refine Wx.h ?_|(refine hK _ ?_;clear hK K)|((fail_if_success refine Wz.h ?_);simp (disch:=omega) only [↓LD,LA,a0A,seval]))
  exact RetS.still (ds:=[]) (by kernel_rfl) (by kernel_rfl) (.tps .nil) (hQ _ (by rw [hE,if_pos hz]))
 haveI:Kn ((a0r x.a++a0r x.b).length≤1000000):=⟨by have:=a0y x.a;have:=a0y x.b;rw [List.length_append];omega⟩
 have hsz:(BB (a0r x.a)).size+(BB (a0r x.b)).size≤1000:=by have:=a0y x.a;have:=a0y x.b;rw [v0j,v0j];omega
 have hnl:=ho.wk.fit.fit.nodes
 have hla:=a0y x.a
 have hlb:=a0y x.b
 have hpk:=b0Y (x:=x.b) (n:=9) (by omega)
 rw [if_neg hz] at hE
 have hpw:=b0Y (x:=x.what) (n:=16) (by omega)
 repeat' (with_reducible first|refine Wx.h ?_|refine We.h fun K hK=>?_|(refine hK _ _ _ _ ?_;clear hK K;try clear hM M)|refine Wb.h fun K hK=>?_|(refine hK _ ?_;clear hK K)|(refine wF ?_ ?_;assumption)|(refine Wy.h ?_ ?_;kernel_rfl)|refine Wq.h ?_ ?_<;>intro h|((fail_if_success refine Wz.h ?_);first|simp (disch:=omega) only [↓LD,LA,a0A,seval,a1P]|(refine And.intro ?_ ?_;omega)|fail))
 all_goals first
  | exact RetS.still (ds:=[]) (by kernel_rfl) (by kernel_rfl) (.tps .nil) (hQ (b0r ⟨s,ver,now,out⟩).2 (by rw [hE,if_pos (by omega)]))
  | exact RetS.still (ds:=[]) (by kernel_rfl) (by kernel_rfl) (.tps .nil) (hQ (armP ⟨s,ver,now,out⟩ (a0r x.a) (1+pick x.b 9)).2 (by rw [hE,if_neg (by omega),if_neg (by omega),if_pos (by omega)]))
  | exact RetS.still (ds:=[]) (by kernel_rfl) (by kernel_rfl) (.tps .nil) (hQ (a0u ⟨s,ver,now,out⟩ (a0r x.a++a0r x.b) (fewL x.data 40)).2 (by rw [hE,if_neg (by omega),if_neg (by omega),if_neg (by omega),if_pos (by omega)]))
  | exact RetS.still (ds:=[]) (by kernel_rfl) (by kernel_rfl) (.tps .nil) (hQ (f0J ⟨s,ver,now,out⟩).2 (by rw [hE,if_neg (by omega),if_neg (by omega),if_neg (by omega),if_neg (by omega),if_pos (by omega)]))
  | exact RetS.still (ds:=[]) (by kernel_rfl) (by kernel_rfl) (.tps .nil) (hQ (b0Z ⟨s,ver,now,out⟩).2 (by rw [hE,if_neg (by omega),if_neg (by omega),if_neg (by omega),if_neg (by omega),if_neg (by omega),if_pos (by assumption)]))
  | exact RetS.still (ds:=[]) (by kernel_rfl) (by kernel_rfl) (.tps .nil) (hQ (e0m ⟨s,ver,now,out⟩).2 (by rw [hE,if_neg (by omega),if_neg (by omega),if_neg (by omega),if_neg (by omega),if_neg (by omega),if_neg (by assumption),if_pos (by assumption)]))
  | exact RetS.still (ds:=[]) (by kernel_rfl) (by kernel_rfl) (.tps .nil) (hQ ⟨s,ver,now,out⟩ (by rw [hE,if_neg (by omega),if_neg (by omega),if_neg (by omega),if_neg (by omega),if_neg (by omega),if_neg (by assumption),if_neg (by assumption)]))
  | skip
 all_goals
  rw [if_neg (by omega),if_pos (by omega)] at hE
  refine HS.loopG [0,4,6] (fun i:Nat=>⟨frm 124 [(0,.pt 0 0),(4,.pt 1 0),(6,D.int i)],[pnB ⟨s,ver,now,out⟩,.box 115 [D.int x.what,D.int x.a,D.int x.b,D.int x.c,D.int x.v,.f (fY x.data)]],[]⟩)
   (fun i=>i≤s.nodes.length∧e0z ⟨s,ver,now,out⟩ x l=finA ⟨s,ver,now,out⟩ x (s.nodes.length-i) i) (fun i=>s.nodes.length-i) 0 (by kernel_rfl) ⟨Nat.zero_le _,hE⟩ ?_
  clear hE
  rintro i ⟨hi,hE⟩
  by_cases hil:i<s.nodes.length
  ·rw [show s.nodes.length-i=(s.nodes.length-(i+1))+1 by omega,finA] at hE
   dsimp only at hE
   repeat' (with_reducible first|refine Wx.h ?_|refine We.h fun K hK=>?_|(refine hK _ _ _ _ ?_;clear hK K;try clear hM M)|refine Wb.h fun K hK=>?_|(refine hK _ ?_;clear hK K)|(refine wT ?_ ?_;assumption)|(refine wF ?_ ?_;assumption)|(refine Wy.h ?_ ?_;kernel_rfl)|refine Wq.h ?_ ?_<;>intro h<;>try (exfalso;omega)|((fail_if_success refine Wz.h ?_);first|simp (disch:=omega) only [↓LD,LA,a0A,seval,LSt,pnB,pnD,b0v,g0s,a0k,Nn.cs]|(refine And.intro ?_ ?_;omega)|fail))
   all_goals first
    | exact RetS.still (ds:=[]) (by kernel_rfl) (by kernel_rfl) (.tps .nil) (hQ (b0M ⟨s,ver,now,out⟩ i (gt s.nodes i).tr true (fewL x.data 40)).2 (by rw [hE,if_pos (by assumption),if_pos (by assumption)]))
    | exact RetS.still (ds:=[]) (by kernel_rfl) (by kernel_rfl) (.tps .nil) (hQ (b0M ⟨s,ver,now,out⟩ i (gt s.nodes i).tr false (fewL x.data 0)).2 (by rw [hE,if_pos (by assumption),if_neg (by assumption)]))
    | exact Next.mk (i+1) (by kernel_rfl) ⟨by omega,by rw [hE,if_neg (by assumption)]⟩ (by omega)
  ·rw [show s.nodes.length-i=0 by omega,finA] at hE
   repeat' (with_reducible first|refine Wx.h ?_|refine Wb.h fun K hK=>?_|(refine hK _ ?_;clear hK K)|refine Wq.h ?_ ?_<;>intro h<;>try (exfalso;omega)|((fail_if_success refine Wz.h ?_);simp (disch:=omega) only [↓LD,LA,a0A,seval,LSt,pnB,pnD,b0v,g0s,a0k,Nn.cs]))
   exact RetS.still (ds:=[]) (by kernel_rfl) (by kernel_rfl) (.tps .nil) (hQ _ hE)
theorem o0s {g:List Ev}{k:Nat}(hk:k<g.length):((g.flatMap Ev.cs).drop (k*9)).take 9=Ev.cs (gt g k):=i0r Ev.cs_len hk
def rEv (l:List Ev):Row:=.data 73 (l.flatMap Ev.cs)
set_option maxRecDepth 100000 in
theorem t0J (l:List Ev)(hl:l.length≤1000000)(hf:∀ e∈l,FitV e):Con Tryz.prog 28 [.sl 0 0 l.length] [rEv l] fun r H'=>r = .tp [stD (a0N s0 l).2,D.int (a0N s0 l).1]∧H'=[rEv l]:=by
 refine Con.walk good u0F (by simp) ?_
 unfold n0c
 simp only [a0J]
 repeat' (with_reducible first|refine Wx.h ?_|refine Wb.h fun K hK=>?_|(refine hK _ ?_;clear hK K)|((fail_if_success refine Wz.h ?_);simp (disch:=omega) only [↓LD,LA,a0A,seval,rEv]))
 refine HS.view (View.bcell 2 5 (.f (.s [] 0)) rfl rfl .ns) ?_
 refine HS.view (View.bcell 2 6 (.f (.s [] 0)) rfl rfl .ns) ?_
 refine HS.view (View.bcell 2 7 (.f (.s [] 0)) rfl rfl .ns) ?_
 refine HS.view (View.bcell 2 8 (.f (.s [] 0)) rfl rfl .ns) ?_
 refine HS.loopG [0,2,4,5] (fun x:Nat × S12=>⟨frm 27 [(0,.sl 0 0 l.length),(2,.pt 1 0),(4,.pt 2 0),(5,D.int x.1)],[rEv l,.box 65 [jI,jI,jI,jI,jF,jN,jN,jN,jN],stF x.2],[]⟩)
  (fun x=>x.1≤l.length∧Ok12 x.2∧a0N s0 l=a0N x.2 (l.drop x.1)) (fun x=>l.length-x.1) (0,s0) (by kernel_rfl) ⟨Nat.zero_le _,b1E,rfl⟩ ?_
 rintro ⟨i,s⟩ ⟨hi,ho,hF⟩
 dsimp only at hi ho hF
 by_cases hil:i<l.length
 ·rw [a0I hil,a0N] at hF
  have hv:=hf _ (a0M hil)
  haveI:Kn (Wk12 s):=⟨ho.wk⟩
  haveI:Kn (FitV (gt l i)):=⟨hv⟩
  repeat' (with_reducible first|refine Wx.h ?_|refine We.h fun K hK=>?_|(refine hK _ _ _ _ ?_;clear hK K;try clear hM M)|refine Wb.h fun K hK=>?_|(refine hK _ ?_;clear hK K)|(refine Wy.h ?_ ?_;kernel_rfl)|refine Wq.h ?_ ?_<;>intro h<;>try (exfalso;omega)|((fail_if_success refine Wz.h ?_);first|simp (disch:=omega) only [↓LD,LA,a0A,seval,rEv,o0s,a0K,Ev.cs,stF,List.map_cons,List.map_nil]|(refine And.intro ?_ ?_;omega)|fail))
  ·have hz:(a0H s (gt l i)).1=0:=by assumption
   rw [if_pos hz] at hF
   have ho2:=d0N ho hv.2.2.2 hz
   exact Next.mk (i+1,(a0H s (gt l i)).2) (by kernel_rfl) ⟨by dsimp only;omega,ho2,hF⟩ (by dsimp only;omega)
  ·rw [if_neg (by assumption)] at hF
   rw [hF]
   exact RetS.still (ds:=[.ag [jI,jI,jI,jI,jF,jN,jN,jN,jN],D.int (a0H s (gt l i)).1]) (by kernel_rfl) (by kernel_rfl) (.tps (.cons (.ags (.cons .f (.cons .f (.cons .f (.cons .f (.cons .f (.cons .nil (.cons .nil (.cons .nil (.cons .nil .nil)))))))))) (.cons .f .nil))) ⟨rfl,rfl⟩
 ·repeat' (with_reducible first|refine Wx.h ?_|refine Wb.h fun K hK=>?_|(refine hK _ ?_;clear hK K)|refine Wq.h ?_ ?_<;>intro h<;>try (exfalso;omega)|((fail_if_success refine Wz.h ?_);simp (disch:=omega) only [↓LD,LA,a0A,seval,rEv,stF]))
  rw [List.drop_of_length_le (by omega),a0N] at hF
  rw [hF]
  exact RetS.still (ds:=[stD s,D.int 0]) (by kernel_rfl) (by kernel_rfl) (.tps (.cons g1O (.cons .f .nil))) ⟨rfl,rfl⟩
theorem e0j (l:List Ev)(ver now:Int)(hl:l.length≤1000000)(hf:∀ e∈l,FitV e):Con Tryz.prog 72 [.sl 0 0 l.length,D.int ver,D.int now] [rEv l] fun r H' =>
  (newE l ver now≠0→r = .tp [.f (.v (.pointer none)),D.int (newE l ver now)]∧H'=[rEv l])∧(newE l ver now=0→r = .tp [.pt 1 0,D.int 0]∧H'=[rEv l,pnB ⟨(a0N s0 l).2,ver,now,[]⟩]):=by
 suffices hh:∀ Q:D→List Row→Prop,(∀ r H',((newE l ver now≠0→r = .tp [.f (.v (.pointer none)),D.int (newE l ver now)]∧H'=[rEv l])∧(newE l ver now=0→r = .tp [.pt 1 0,D.int 0]∧H'=[rEv l,pnB ⟨(a0N s0 l).2,ver,now,[]⟩]))→Q r H')→Con Tryz.prog 72 [.sl 0 0 l.length,D.int ver,D.int now] [rEv l] Q from hh _ fun _ _ h=>h
 intro Q hQ
 haveI:Kn (l.length≤1000000):=⟨hl⟩
 haveI:Kn (∀ e∈l,FitV e):=⟨hf⟩
 have hE:newE l ver now=newE l ver now:=rfl
 conv at hE=>rhs;unfold newE
 generalize newE l ver now=E at hQ hE
 generalize hF:a0N s0 l=p at hQ hE
 obtain ⟨v,s⟩:=p
 dsimp only at hE hQ
 refine Con.walk good z0G (by simp) ?_
 unfold s0M
 simp only [a0J]
 repeat' (with_reducible first|refine Wa.h ?_|refine Ws.h ?_|refine Wb.h fun K hK=>?_|(refine hK _ ?_;clear hK K)|((fail_if_success refine Wz.h ?_);simp (disch:=omega) only [↓LD,LA,a0A,seval,rEv]))
 refine a0D (t0J l hl hf) [0] (by kernel_rfl) rfl rfl ?_
 rintro _ _ ⟨rfl,rfl⟩
 simp (disch:=omega) only [↓LD,LA,a0A,seval,ren,List.getElem?_nil,rEv]
 rw [hF]
 repeat' (with_reducible first|refine Wa.h ?_|refine Ws.h ?_|refine Wb.h fun K hK=>?_|(refine hK _ ?_;clear hK K)|refine Wq.h ?_ ?_<;>intro h|refine Wu.h ?_ ?_<;>intro h<;>try simp only [h]|((fail_if_success refine Wz.h ?_);simp (disch:=omega) only [↓LD,LA,a0A,seval,rEv,stD]))
 ·have hv:E=1:=by rw [hE,if_neg (fun hh=>hh (show v=0 by assumption)),if_pos (by assumption)]
  repeat' (with_reducible first|refine Wx.h ?_|fail)
  exact end2 rfl rfl rfl rfl (by kernel_rfl) (.tps (.cons .f (.cons .f .nil))) (hQ _ _ ⟨fun _=>⟨by rw [hv];try rfl,rfl⟩,fun h=>by omega⟩)
 ·have hv:E=1:=by rw [hE,if_neg (fun hh=>hh (show v=0 by assumption)),if_neg (by rw [show (!verB ver)=false by assumption];simp),if_pos (by assumption)]
  repeat' (with_reducible first|refine Wx.h ?_|fail)
  exact end2 rfl rfl rfl rfl (by kernel_rfl) (.tps (.cons .f (.cons .f .nil))) (hQ _ _ ⟨fun _=>⟨by rw [hv];try rfl,rfl⟩,fun h=>by omega⟩)
 ·have hv:E=1:=by rw [hE,if_neg (fun hh=>hh (show v=0 by assumption)),if_neg (by rw [show (!verB ver)=false by assumption];simp),if_neg (by assumption),if_pos (by assumption)]
  repeat' (with_reducible first|refine Wx.h ?_|fail)
  exact end2 rfl rfl rfl rfl (by kernel_rfl) (.tps (.cons .f (.cons .f .nil))) (hQ _ _ ⟨fun _=>⟨by rw [hv];try rfl,rfl⟩,fun h=>by omega⟩)
 ·have hv:E=4:=by rw [hE,if_neg (fun hh=>hh (show v=0 by assumption)),if_neg (by rw [show (!verB ver)=false by assumption];simp),if_neg (by assumption),if_neg (by assumption),if_pos (by assumption)]
  repeat' (with_reducible first|refine Wx.h ?_|fail)
  exact end2 rfl rfl rfl rfl (by kernel_rfl) (.tps (.cons .f (.cons .f .nil))) (hQ _ _ ⟨fun _=>⟨by rw [hv];try rfl,rfl⟩,fun h=>by omega⟩)
 ·have hv:E=0:=by rw [hE,if_neg (fun hh=>hh (show v=0 by assumption)),if_neg (by rw [show (!verB ver)=false by assumption];simp),if_neg (by assumption),if_neg (by assumption),if_neg (by assumption)]
  refine HS.view (View.bcell 2 11 (.f (.s [] 0)) rfl rfl .ns) ?_
  repeat' (with_reducible first|refine Wx.h ?_|fail)
  exact RetS.gather (ds:=[.pt 2 0,D.int 0]) (e:=⟨.tp [.pt 1 0,D.int 0],[(0,rEv l)],[pnB ⟨s,ver,now,[]⟩]⟩) (by kernel_rfl) (by kernel_rfl) (hQ _ _ ⟨fun h=>absurd hv h,fun _=>⟨rfl,rfl⟩⟩)
 ·have hv:E=1:=by rw [hE,if_pos (show v≠0 by assumption)]
  repeat' (with_reducible first|refine Wx.h ?_|fail)
  exact end2 rfl rfl rfl rfl (by kernel_rfl) (.tps (.cons .f (.cons .f .nil))) (hQ _ _ ⟨fun _=>⟨by rw [hv];try rfl,rfl⟩,fun h=>by omega⟩)
def r0D (v:Int):Int:=v+1+ownD (v+1)
def verN:Nat→Int→Int
 | 0,v=>v
 | n+1,v=>verN n (r0D v)
def verL (was n:Int):Int:=max (verN (pick n 3).toNat was) 1
theorem o0b (v:Int):v+1≤r0D v∧r0D v≤v+7:=by
 have:=o0h (v+1)
 unfold r0D;omega
theorem t0c:∀ (n:Nat) (v:Int),v≤verN n v∧verN n v≤v+7*n
 | 0,v=>by simp [verN]
 | n+1,v=>by
  have h1:=t0c n (r0D v)
  have h2:=o0b v
  rw [verN];omega
theorem t0z (was n:Int):was≤verL was n∧1≤verL was n∧verL was n≤max was 1+21:=by
 have h1:=t0c (pick n 3).toNat was
 have h2:=b0Y (x:=n) (n:=3) (by omega)
 unfold verL;omega
theorem a1K {x:Int}(h0:0≤x)(h1:¬ x.tmod 10<1)(h2:¬ 4<x.tmod 10):ownD x=0:=by
 rw [Int.tmod_eq_emod_of_nonneg h0] at h1 h2
 unfold ownD;split<;>(try split)<;>omega
theorem e0G (was n:Int)(h0:0≤was)(h1:was≤4398046511104):Con Tryz.prog 58 [D.int was,D.int n] [] fun r H'=>r=D.int (verL was n)∧H'=[]:=by
 refine Con.walk good i0t (by simp) ?_
 unfold e0w
 simp only [a0J]
 repeat' (with_reducible first|refine Wx.h ?_|refine Wb.h fun K hK=>?_|(refine hK _ ?_;clear hK K)|((fail_if_success refine Wz.h ?_);simp (disch:=omega) only [↓LD,LA,a0A,seval]))
 have pk:=b0Y (x:=n) (n:=3) (by omega)
 refine HS.loopG [0,1,5,6] (fun x:Nat × Int=>⟨frm 28 [(0,D.int was),(1,D.int n),(5,D.int x.2),(6,D.int x.1)],[],[]⟩) (fun x=>(x.1:Int)≤pick n 3∧was≤x.2∧x.2≤was+11*x.1∧verN (pick n 3).toNat was=verN ((pick n 3).toNat-x.1) x.2) (fun x=>3-x.1) (0,was) (by kernel_rfl) ⟨by dsimp only;omega,by simp,by simp,rfl⟩ ?_
 rintro ⟨i,v⟩ ⟨hi,hv1,hv2,hv0⟩
 dsimp only at hi hv1 hv2 hv0
 repeat' (with_reducible first|refine Wx.h ?_|refine Wb.h fun K hK=>?_|(refine hK _ ?_;clear hK K)|refine Wq.h ?_ ?_<;>intro h|((fail_if_success refine Wz.h ?_);simp (disch:=omega) only [↓LD,LA,a0A,seval]))
 ·have hd:=o0h (v+1)
  rw [show (pick n 3).toNat-i=((pick n 3).toNat-(i+1))+1 by omega,verN] at hv0
  refine HS.loopG [0,1,5,6] (fun x:Int=>⟨frm 28 [(0,D.int was),(1,D.int n),(5,D.int x),(6,D.int i)],[],[]⟩) (fun x=>v+1≤x∧x+ownD x=r0D v) (fun x=>(ownD x).toNat) (v+1) (by kernel_rfl) ⟨by omega,rfl⟩ ?_
  rintro x ⟨hx1,hx2⟩
  have hbv:=o0b v
  have hd2:=o0h x
  have hd3:=o0h (x+1)
  have hst:=z0g (x:=x) (by omega)
  have hgd:=a1K (x:=x) (by omega)
  repeat' (with_reducible first|refine Wx.h ?_|refine Wb.h fun K hK=>?_|(refine hK _ ?_;clear hK K)|refine Wq.h ?_ ?_<;>intro h|((fail_if_success refine Wz.h ?_);simp (disch:=omega) only [↓LD,LA,a0A,seval]))
  ·have hst:=hst (.inl (by assumption))
   exact Next.mk (x+1) (by kernel_rfl) ⟨by omega,by omega⟩ (by omega)
  ·have hst:=hst (.inr (by assumption))
   exact Next.mk (x+1) (by kernel_rfl) ⟨by omega,by omega⟩ (by omega)
  ·have hgd:=hgd (by assumption) (by assumption)
   have hxb:x=r0D v:=by omega
   exact Next.mk (i+1,x) (by kernel_rfl) ⟨by dsimp only;omega,by dsimp only;omega,by dsimp only;omega,by dsimp only;rw [hv0,hxb]⟩ (by dsimp only;omega)
 ·rw [show (pick n 3).toNat-i=0 by omega,verN] at hv0
  exact end1 rfl rfl (by kernel_rfl) .f ⟨by rw [verL,hv0];try rfl,rfl⟩
instance {v n:Int}{H:List Row}{K:D→List Row→Prop}:Wa (a0T Tryz.prog (.fn 58 []) [.f (.v (.int .i64 v)),.f (.v (.int .i64 n))] H K) ((0≤v∧v≤4398046511104)∧K (.f (.v (.int .i64 (verL v n)))) H):=⟨fun h=>a0C (e0G v n h.1.1 h.1.2) rfl rfl rfl h.2⟩
instance {v n:Int}{H:List Row}{K:Bool→D→List Row→Prop}:Wa (a0m Tryz.prog (.fn 58 []) [.f (.v (.int .i64 v)),.f (.v (.int .i64 n))] H K) ((0≤v∧v≤4398046511104)∧K true (.f (.v (.int .i64 (verL v n)))) H):=⟨fun h=>a0O (e0G v n h.1.1 h.1.2) rfl rfl rfl h.2⟩
structure BrOk (l:List Ev):Prop where
 fold:(a0N s0 l).1=0
 fit:∀ e∈l,FitV e
 sig:∀ e∈l,SgN e
theorem BrOk.nil:BrOk []:=⟨rfl,fun e h=>by simp at h,fun e h=>by simp at h⟩
theorem BrOk.ok {l:List Ev}(h:BrOk l):Ok12 (a0N s0 l).2:=w0X b1E h.fit h.fold
theorem BrOk.id {l:List Ev}(h:BrOk l):(a0N s0 l).2.id=l.length:=by
 have:=n0p h.fold
 rw [this];simp [s0]
theorem BrOk.len {l:List Ev}(h:BrOk l):l.length≤200:=by
 have h1:=h.id
 have h2:=h.ok.id
 omega
theorem j0D:∀ {l:List Ev} {s:S12},(a0N s l).1=0→∀ e∈l,b0K e=true
 | [],_,_,e,he=>by simp at he
 | x :: l,s,h,e,he=>by
  rw [a0N] at h
  by_cases a:(a0H s x).1=0
  ·rw [if_pos a] at h
   rcases List.mem_cons.1 he with rfl|he
   ·exact (b0d a).1
   ·exact j0D h e he
  ·rw [if_neg a] at h;exact absurd h a
theorem BrOk.right {l:List Ev}(h:BrOk l){e:Ev}(he:e∈l):b0K e=true:=j0D h.fold e he
theorem BrOk.app {l:List Ev}{p:Pn}(h:BrOk l)(hp:PnT (a0N s0 l).2 p):BrOk (l++p.out):=by
 refine ⟨by rw [j0P h.fold,hp.ok.out],fun e he=>?_,fun e he=>?_⟩
 rotate_left
 ·rcases List.mem_append.1 he with he|he
  ·exact h.sig e he
  ·exact hp.sg e he
 rcases List.mem_append.1 he with he|he
 ·exact h.fit e he
 ·exact hp.ok.fit e he
theorem BrOk.pen {l:List Ev}(h:BrOk l)(v now:Int):PnT (a0N s0 l).2 ⟨(a0N s0 l).2,v,now,[]⟩:=⟨⟨h.ok,h.ok,rfl,fun e he=>by simp at he⟩,fun e he=>by simp at he⟩
theorem a1j {l:List Ev}{v now:Int}(h:newE l v now=0):verB v=true∧0≤now∧now≤1099511627776∧(a0N s0 l).2.ver≤v:=by
 unfold newE at h
 split at h
 ·cases h
 split at h
 ·cases h
 split at h
 ·cases h
 split at h
 ·cases h
 split at h
 ·cases h
 refine ⟨?_,by omega,by omega,by omega⟩
 cases hb:verB v with
 | true=>rfl
 | false=>simp_all
theorem f0Q {v:Int}(h:verB v=true):1≤v∧v≤1099511627776:=by
 simp only [verB,inI,Bool.and_eq_true,decide_eq_true_eq] at h;exact h.1
def mvA (x:Rw):Int:=IntKind.i64.wrap (IntKind.i64.wrap (x.v.tdiv 4)*x.v.tmod 2)
def g0L (steps:List Rw)(defs:List Rd):Nat→Nat→List Ev→Int→Int→List Ev
 | 0,_,out,_,_=>out
 | f+1,i,out,v,now=>if i<steps.length∧out.length<150 then
   (if newE out (verL v (mvA (gt steps i))) (now+pick (gt steps i).c 5)=0 then
    g0L steps defs f (i+1) (out++(e0z ⟨(a0N s0 out).2,verL v (mvA (gt steps i)),now+pick (gt steps i).c 5,[]⟩ (gt steps i) defs).out) (verL v (mvA (gt steps i))) (now+pick (gt steps i).c 5)
   else out) else out
def e0K (l:List Ev)(steps:List Rw)(defs:List Rd):List Ev :=
 if l.length=0 then g0L steps defs 30 0 [] 1 0 else g0L steps defs 30 0 l (gt l (l.length-1)).ver (gt l (l.length-1)).time
theorem o0q {steps:List Rw}{defs:List Rd}:∀ {f i:Nat} {out:List Ev} {v now:Int},BrOk out→BrOk (g0L steps defs f i out v now)
 | 0,_,_,_,_,h=>h
 | f+1,i,out,v,now,h=>by
  rw [g0L]
  split
  ·split
   ·exact o0q (h.app (t0E (h.pen _ _)))
   ·exact h
  ·exact h
theorem w0b {l:List Ev}{steps:List Rw}{defs:List Rd}(h:BrOk l):BrOk (e0K l steps defs):=by
 unfold e0K;split
 ·exact o0q BrOk.nil
 ·exact o0q h
theorem s0F {steps:List Rw}{defs:List Rd}{f i:Nat}{out:List Ev}{v now:Int}(h:f=0∨¬ (i<steps.length∧out.length<150)):g0L steps defs f i out v now=out:=by
 cases f with
 | zero=>rfl
 | succ f=>rw [g0L,if_neg (by omega)]
set_option maxRecDepth 100000 in
theorem h0D (l:List Ev)(hbr:BrOk l)(steps:List Rw)(defs:List Rd):Con Tryz.prog 37 [.f (fEv l),.f (fRw steps),.f (fR defs)] [] fun r H'=>r = .f (fEv (e0K l steps defs))∧H'=[]:=by
 suffices hh:∀ Q:D→List Row→Prop,(∀ out,e0K l steps defs=out→Q (.f (fEv out)) [])→Con Tryz.prog 37 [.f (fEv l),.f (fRw steps),.f (fR defs)] [] Q from hh _ fun out h=>⟨by rw [h],rfl⟩
 intro Q hQ
 have hE:e0K l steps defs=e0K l steps defs:=rfl
 conv at hE=>rhs;unfold e0K
 have hll:=hbr.len
 refine Con.walk good p0a (by simp) ?_
 unfold j0h
 simp only [a0J]
 have hlast:∀ k:Nat,k<l.length→1≤(gt l k).ver∧(gt l k).ver≤1099511627776∧0≤(gt l k).time∧(gt l k).time≤1099511627776:=fun k hk=>by
  have:=rightE_iff.1 (hbr.right (a0M hk))
  have hv:=f0Q this.2.2.1
  exact ⟨hv.1,hv.2,this.2.2.2.1.1,this.2.2.2.1.2⟩
 have e1:((l.length:Int)-1).toNat=l.length-1:=by omega
 have hl0:=hlast (l.length-1)
 by_cases hz:l.length=0
 rotate_left
 have hl1:=hl0 (by omega)
 rw [if_neg hz] at hE
 rotate_left
 rw [if_pos hz] at hE
 obtain rfl:=List.eq_nil_of_length_eq_zero hz
 ·repeat' (with_reducible first|refine Wx.h ?_|refine Wb.h fun K hK=>?_|(refine hK _ ?_;clear hK K)|((fail_if_success refine Wz.h ?_);simp (disch:=omega) only [↓LD,LA,a0A,seval,LEv,g0d,o0I,a0K,Ev.cs,e1]))
  refine HS.loopG [1,2,7,8,9,10] (fun x:Nat × List Ev × Int × Int=>⟨frm 88 [(1,.f (fRw steps)),(2,.f (fR defs)),(7,.sl 0 0 x.2.1.length),(8,D.int x.2.2.1),(9,D.int x.2.2.2),(10,D.int x.1)],[rEv x.2.1],[]⟩)
   (fun x=>x.1≤30∧BrOk x.2.1∧(0≤x.2.2.1∧x.2.2.1≤1099511627776)∧(0≤x.2.2.2∧x.2.2.2≤1099511627776)∧e0K _ steps defs=g0L steps defs (30-x.1) x.1 x.2.1 x.2.2.1 x.2.2.2) (fun x=>30-x.1) (0,[],1,0) (by kernel_rfl) ⟨by omega,BrOk.nil,⟨by dsimp only;omega,by dsimp only;omega⟩,⟨by dsimp only;omega,by dsimp only;omega⟩,hE⟩ ?_
  clear hl0 hlast hll hbr hE
  rintro ⟨i,out,v,now⟩ ⟨hi,ho,hv,hnw,hE⟩
  dsimp only at hi ho hv hnw hE
  have hol:=ho.len
  have hpc:=b0Y (x:=(gt steps i).c) (n:=5) (by omega)
  repeat' (with_reducible first|refine Wx.h ?_|refine Wb.h fun K hK=>?_|(refine hK _ ?_;clear hK K)|refine Wq.h ?_ ?_<;>intro h|((fail_if_success refine Wz.h ?_);first|simp (disch:=omega) only [↓LD,LA,a0A,seval,w0M,u0i,z0d,u0c,Rw.cs,-a0A,rEv,List.map_cons,List.map_nil]|(refine And.intro ?_ ?_;omega)|fail))
  ·rw [show 30-i=(30-(i+1))+1 by omega,g0L,if_pos ⟨by omega,by omega⟩] at hE
   have hvl:=t0z v (mvA (gt steps i))
   unfold mvA at hE hvl
   generalize verL v (IntKind.i64.wrap (IntKind.i64.wrap ((gt steps i).v.tdiv 4)*(gt steps i).v.tmod 2))=v1 at *
   refine a0D (e0j out v1 (now+pick (gt steps i).c 5) (by omega) ho.fit) [0] (by kernel_rfl) rfl rfl ?_
   rintro _ _ ⟨hq1,hq2⟩
   by_cases hn:newE out v1 (now+pick (gt steps i).c 5)=0
   ·rw [if_pos hn] at hE
    obtain ⟨rfl,rfl⟩:=hq2 hn
    obtain ⟨a1,a2,a3,a4⟩:=a1j hn
    have a5:=f0Q a1
    simp (disch:=omega) only [↓LD,LA,a0A,seval,ren,List.getElem?_nil,rEv,pnB,pnD]
    repeat' (with_reducible first|refine Wx.h ?_|refine Wb.h fun K hK=>?_|(refine hK _ ?_;clear hK K)|((fail_if_success refine Wz.h ?_);simp (disch:=omega) only [↓LD,LA,a0A,seval,rEv,pnB,pnD]))
    refine a0D (h0k (a0N s0 out).2 ⟨(a0N s0 out).2,v1,now+pick (gt steps i).c 5,[]⟩ (gt steps i) defs (ho.pen _ _)) [2] (by kernel_rfl) rfl rfl ?_
    rintro _ _ ⟨rfl,rfl⟩
    have hp':=t0E (x:=gt steps i) (l:=defs) (ho.pen v1 (now+pick (gt steps i).c 5))
    generalize e0z ⟨(a0N s0 out).2,v1,now+pick (gt steps i).c 5,[]⟩ (gt steps i) defs=p' at *
    have hpl:=hp'.ok.len
    have hap:=ho.app hp'
    simp (disch:=omega) only [↓LD,LA,a0A,seval,ren,List.getElem?_nil,rEv,pnB,pnD]
    repeat' (with_reducible first|refine Wx.h ?_|refine Wb.h fun K hK=>?_|(refine hK _ ?_;clear hK K)|refine Wq.h ?_ ?_<;>intro h|((fail_if_success refine Wz.h ?_);first|simp (disch:=omega) only [↓LD,LA,a0A,seval,rEv,LEv,a0K]|(refine And.intro ?_ ?_;omega)|fail))
    ·rw [List.eq_nil_of_length_eq_zero (show p'.out.length=0 by omega),List.append_nil] at hE
     exact Next.mk (i+1,out,v1,now+pick (gt steps i).c 5) (by kernel_rfl) ⟨by dsimp only;omega,ho,⟨by dsimp only;omega,by dsimp only;omega⟩,⟨by dsimp only;omega,by dsimp only;omega⟩,hE⟩ (by dsimp only;omega)
    ·rw [←List.flatMap_append,←List.length_append]
     exact Next.mk (i+1,out++p'.out,v1,now+pick (gt steps i).c 5) (by kernel_rfl) ⟨by dsimp only;omega,hap,⟨by dsimp only;omega,by dsimp only;omega⟩,⟨by dsimp only;omega,by dsimp only;omega⟩,hE⟩ (by dsimp only;omega)
   ·rw [if_neg hn] at hE
    obtain ⟨rfl,rfl⟩:=hq1 hn
    simp (disch:=omega) only [↓LD,LA,a0A,seval,ren,List.getElem?_nil,rEv]
    repeat' (with_reducible first|refine Wx.h ?_|refine Wb.h fun K hK=>?_|(refine hK _ ?_;clear hK K)|(refine wF ?_ ?_;assumption)|((fail_if_success refine Wz.h ?_);simp (disch:=omega) only [↓LD,LA,a0A,seval,rEv]))
    exact end1 rfl rfl (by kernel_rfl) (.sl (T:=73) (xs:=out.flatMap Ev.cs) rfl (fun e=>by rw [List.eq_nil_of_length_eq_zero e];try rfl)) (hQ out (hE))
  all_goals exact end1 rfl rfl (by kernel_rfl) (.sl (T:=73) (xs:=out.flatMap Ev.cs) rfl (fun e=>by rw [List.eq_nil_of_length_eq_zero e];try rfl)) (hQ out (by rw [hE,s0F (by omega)]))
 ·repeat' (with_reducible first|refine Wx.h ?_|refine Wb.h fun K hK=>?_|(refine hK _ ?_;clear hK K)|(refine wF ?_ ?_;assumption)|refine Wq.h ?_ ?_<;>intro h<;>try (exfalso;omega)|((fail_if_success refine Wz.h ?_);first|simp (disch:=omega) only [↓LD,LA,a0A,seval,LEv,g0d,o0I,a0K,Ev.cs,e1]|(refine And.intro ?_ ?_;omega)|fail))
  refine HS.loopG [1,2,7,8,9,10] (fun x:Nat × List Ev × Int × Int=>⟨frm 88 [(1,.f (fRw steps)),(2,.f (fR defs)),(7,.sl 0 0 x.2.1.length),(8,D.int x.2.2.1),(9,D.int x.2.2.2),(10,D.int x.1)],[rEv x.2.1],[]⟩)
   (fun x=>x.1≤30∧BrOk x.2.1∧(0≤x.2.2.1∧x.2.2.1≤1099511627776)∧(0≤x.2.2.2∧x.2.2.2≤1099511627776)∧e0K _ steps defs=g0L steps defs (30-x.1) x.1 x.2.1 x.2.2.1 x.2.2.2) (fun x=>30-x.1) (0,l,(gt l (l.length-1)).ver,(gt l (l.length-1)).time) (by kernel_rfl) ⟨by omega,hbr,⟨by dsimp only;omega,by dsimp only;omega⟩,⟨by dsimp only;omega,by dsimp only;omega⟩,hE⟩ ?_
  clear hl0 hlast hll hbr hE
  rintro ⟨i,out,v,now⟩ ⟨hi,ho,hv,hnw,hE⟩
  dsimp only at hi ho hv hnw hE
  have hol:=ho.len
  have hpc:=b0Y (x:=(gt steps i).c) (n:=5) (by omega)
  repeat' (with_reducible first|refine Wx.h ?_|refine Wb.h fun K hK=>?_|(refine hK _ ?_;clear hK K)|refine Wq.h ?_ ?_<;>intro h|((fail_if_success refine Wz.h ?_);first|simp (disch:=omega) only [↓LD,LA,a0A,seval,w0M,u0i,z0d,u0c,Rw.cs,-a0A,rEv,List.map_cons,List.map_nil]|(refine And.intro ?_ ?_;omega)|fail))
  ·rw [show 30-i=(30-(i+1))+1 by omega,g0L,if_pos ⟨by omega,by omega⟩] at hE
   have hvl:=t0z v (mvA (gt steps i))
   unfold mvA at hE hvl
   generalize verL v (IntKind.i64.wrap (IntKind.i64.wrap ((gt steps i).v.tdiv 4)*(gt steps i).v.tmod 2))=v1 at *
   refine a0D (e0j out v1 (now+pick (gt steps i).c 5) (by omega) ho.fit) [0] (by kernel_rfl) rfl rfl ?_
   rintro _ _ ⟨hq1,hq2⟩
   by_cases hn:newE out v1 (now+pick (gt steps i).c 5)=0
   ·rw [if_pos hn] at hE
    obtain ⟨rfl,rfl⟩:=hq2 hn
    obtain ⟨a1,a2,a3,a4⟩:=a1j hn
    have a5:=f0Q a1
    simp (disch:=omega) only [↓LD,LA,a0A,seval,ren,List.getElem?_nil,rEv,pnB,pnD]
    repeat' (with_reducible first|refine Wx.h ?_|refine Wb.h fun K hK=>?_|(refine hK _ ?_;clear hK K)|((fail_if_success refine Wz.h ?_);simp (disch:=omega) only [↓LD,LA,a0A,seval,rEv,pnB,pnD]))
    refine a0D (h0k (a0N s0 out).2 ⟨(a0N s0 out).2,v1,now+pick (gt steps i).c 5,[]⟩ (gt steps i) defs (ho.pen _ _)) [2] (by kernel_rfl) rfl rfl ?_
    rintro _ _ ⟨rfl,rfl⟩
    have hp':=t0E (x:=gt steps i) (l:=defs) (ho.pen v1 (now+pick (gt steps i).c 5))
    generalize e0z ⟨(a0N s0 out).2,v1,now+pick (gt steps i).c 5,[]⟩ (gt steps i) defs=p' at *
    have hpl:=hp'.ok.len
    have hap:=ho.app hp'
    simp (disch:=omega) only [↓LD,LA,a0A,seval,ren,List.getElem?_nil,rEv,pnB,pnD]
    repeat' (with_reducible first|refine Wx.h ?_|refine Wb.h fun K hK=>?_|(refine hK _ ?_;clear hK K)|refine Wq.h ?_ ?_<;>intro h|((fail_if_success refine Wz.h ?_);first|simp (disch:=omega) only [↓LD,LA,a0A,seval,rEv,LEv,a0K]|(refine And.intro ?_ ?_;omega)|fail))
    ·rw [List.eq_nil_of_length_eq_zero (show p'.out.length=0 by omega),List.append_nil] at hE
     exact Next.mk (i+1,out,v1,now+pick (gt steps i).c 5) (by kernel_rfl) ⟨by dsimp only;omega,ho,⟨by dsimp only;omega,by dsimp only;omega⟩,⟨by dsimp only;omega,by dsimp only;omega⟩,hE⟩ (by dsimp only;omega)
    ·rw [←List.flatMap_append,←List.length_append]
     exact Next.mk (i+1,out++p'.out,v1,now+pick (gt steps i).c 5) (by kernel_rfl) ⟨by dsimp only;omega,hap,⟨by dsimp only;omega,by dsimp only;omega⟩,⟨by dsimp only;omega,by dsimp only;omega⟩,hE⟩ (by dsimp only;omega)
   ·rw [if_neg hn] at hE
    obtain ⟨rfl,rfl⟩:=hq1 hn
    simp (disch:=omega) only [↓LD,LA,a0A,seval,ren,List.getElem?_nil,rEv]
    repeat' (with_reducible first|refine Wx.h ?_|refine Wb.h fun K hK=>?_|(refine hK _ ?_;clear hK K)|(refine wF ?_ ?_;assumption)|((fail_if_success refine Wz.h ?_);simp (disch:=omega) only [↓LD,LA,a0A,seval,rEv]))
    exact end1 rfl rfl (by kernel_rfl) (.sl (T:=73) (xs:=out.flatMap Ev.cs) rfl (fun e=>by rw [List.eq_nil_of_length_eq_zero e];try rfl)) (hQ out (hE))
  all_goals exact end1 rfl rfl (by kernel_rfl) (.sl (T:=73) (xs:=out.flatMap Ev.cs) rfl (fun e=>by rw [List.eq_nil_of_length_eq_zero e];try rfl)) (hQ out (by rw [hE,s0F (by omega)]))
theorem l0H (steps:List Rw)(defs:List Rd):Con Tryz.prog 9 [.f (fRw steps),.f (fR defs)] [] fun r H'=>r = .f (fEv (e0K [] steps defs))∧H'=[]:=by
 refine Con.walk good l0G (by simp) ?_
 unfold f0n
 simp only [a0J]
 repeat' (with_reducible first|refine Wx.h ?_|refine Wb.h fun K hK=>?_|(refine hK _ ?_;clear hK K)|((fail_if_success refine Wz.h ?_);simp (disch:=omega) only [↓LD,LA,a0A,seval]))
 refine d0Z (args0:=[.f (fEv []),.f (fRw steps),.f (fR defs)]) ?_ (.cons (.f .ns) (.cons .refl (.cons .refl .nil)))
 refine a0D (h0D [] BrOk.nil steps defs) [] (by kernel_rfl) rfl rfl ?_
 rintro _ _ ⟨rfl,rfl⟩
 simp (disch:=omega) only [↓LD,LA,a0A,seval,ren,List.getElem?_nil]
 repeat' (with_reducible first|refine Wx.h ?_|(refine hK _ ?_;clear hK K)|((fail_if_success refine Wz.h ?_);simp (disch:=omega) only [↓LD,LA,a0A,seval]))
 exact end1 rfl rfl (by kernel_rfl) .f ⟨rfl,rfl⟩
theorem m0E:∀ {b:List Ev} {s:S12} {i:Nat},(a0N s b).1=0→(a0N s (b.take i)).1=0
 | [],s,i,h=>by simpa using h
 | e :: b,s,0,h=>rfl
 | e :: b,s,i+1,h=>by
  rw [List.take_succ_cons,a0N]
  rw [a0N] at h
  by_cases a:(a0H s e).1=0
  ·rw [if_pos a] at h ⊢;exact m0E h
  ·rw [if_neg a] at h;exact absurd h a
noncomputable def eqB {α:Type}(a b:α):Bool:=@decide (a=b) (Classical.propDecidable _)
theorem f0S {α:Type}{a b:α}(h:a=b):eqB a b=true:=by simp [eqB,h]
theorem f0R {α:Type}{a b:α}(h:¬ a=b):eqB a b=false:=by simp [eqB,h]
theorem o0J {α:Type}{a b:List α}(h:¬ (a.length:Int)=b.length):eqB a b=false:=f0R fun e=>h (by rw [e])
theorem o0c {α:Type}{a b:List α}{i:Nat}(hl:(a.length:Int)=b.length)(h:a.take i=b.take i)(hi:¬ (i:Int)<a.length):eqB a b=true:=f0S (by
 rwa [List.take_of_length_le (by omega),List.take_of_length_le (by omega)] at h)
theorem f0h {α:Type}[Inhabited α]{a b:List α}{i:Nat}(hl:(a.length:Int)=b.length)(hi:i<a.length)(h:a.take i=b.take i)(e:gt a i=gt b i):a.take (i+1)=b.take (i+1):=by
 rw [List.take_succ_eq_append_getElem hi,List.take_succ_eq_append_getElem (by omega),h,←a0v hi,←a0v (by omega),e]
theorem u0a {α:Type}[Inhabited α]{a b:List α}{i:Nat}(e:¬ gt a i=gt b i):eqB a b=false:=f0R fun h=>e (by rw [h])
theorem e1R {α:Type}{a:α}:eqB a a=true:=f0S rfl
theorem v0I {α:Type}{a b:α}(h:eqB a b=true):a=b:=by simpa [eqB] using h
def c1g:SCode :=
  (jq ([.a 2 (.mv kN)]) (jq ([.a 3 (.mv kN)]) (.seq (jq ([jk 4 0]) (.block 0 (.loop (.seq (jq ([jm 5 4,jm 6 0,je 7 6,jB 8 .lss 5 7]) (jc 8 .skip
 (.exit 0))) (.seq (.block 1 (.ops (ap [jm 11 3,jm 12 0,jm 13 4,jx 14 9 12 13,jo 15 1 14,jl 16 15,.a 17 (.bsl 3 1 1 [jI] [(0,(.t 16))]),.a 18
 (.app 3 1 8 (.t 11) (.t 17))] [jm 3 18]))) (.ops [jm 9 4,jb 10 .add 9 1,jm 4 10])))))) (.seq (jq ([jm 19 0,je 20 19,jb 21 .eql 20 0]) (jc 21 (jq
 ([.a 2 (.mv kN)]) .ret) .skip)) (jq ((ap [jm 22 3,jm 23 0,.a 24 (.idx 9 (.t 23) (kI 0)),jo 25 0 24,jl 26 25,.a 27 (.call (kC 74) [(.t 22),(.t
 26)])] [jm 2 27])) .ret)))))
theorem d1w:Fn Tryz.prog 39 28 [.t 2] c1g:=.of Tryz.func39 (by kernel_rfl)
def l0O:SCode :=
  (jq ([.a 4 (.mv kN)]) (jq ([.a 5 (.mv kN)]) (.seq (jq ([jk 6 0]) (.block 0 (.loop (.seq (jq ([jm 8 6,jm 9 0,je 10 9,jB 11 .lss 8 10]) (jc 11 .skip
 (.exit 0))) (.seq (.block 1 (jq ([jm 14 5,je 15 14,jm 7 15]) (.seq (.drw [jm 16 7,jb 17 .gtr 16 0,jm 18 17,gM 19 5 18 true,gM 20 7 18 true,jG 21
 (.bin .sub (.t 20) (kI 1)) 18 true,jG 22 (.idx 2 (.t 19) (.t 21)) 18 true,gO 23 1 22 18 true,gL 24 23 18 true,gM 25 0 18 true,gM 26 6 18 true,jG
 27 (.idx 1 (.t 25) (.t 26)) 18 true,gL 28 27 18 true,jG 29 (.bin .eql (.t 24) (.t 28)) 18 true,.a 30 (.pick (.t 18) (.t 29) kF)] [0,1,3,7,7,23,
 63,127,255,7,7,1543,3591,8191,16383]) (jc 30 (.ops [jm 31 5,jm 32 7,jb 33 .sub 32 1,jm 34 1,jm 35 6,jB 36 .add 34 35,jx 37 2 31 33,jo 38
 0 37,.n (.store 1 (.t 38) (.t 36))]) (.ops (ap [jm 39 5,jm 40 1,jm 41 6,jB 42 .add 40 41,jm 43 0,jm 44 6,jx 45 1 43 44,jl 46 45,.a 47 (.bld
 [jI,jI] [(0,1,(.t 42)),(1,1,(.t 46))]),.a 48 (.bsl 57 2 1 [jI,jI] [(0,(.t 47))]),.a 49 (.app 57 2 16 (.t 39) (.t 48))] [jm 5 49])))))) (.ops
 [jm 12 6,jb 13 .add 12 1,jm 6 13])))))) (jq ([jm 50 5,jm 4 50]) .ret))))
theorem t0C:Fn Tryz.prog 74 51 [.t 4] l0O:=.of Tryz.func74 (by kernel_rfl)
structure Im where
 id:Int
 ver:Int
 deriving Inhabited,DecidableEq
def Im.cs (x:Im):List F:=[iF x.id,iF x.ver]
theorem Im.cs_len (x:Im):x.cs.length=2:=rfl
def fIm (l:List Im):F:=.s (l.flatMap Im.cs) l.length
theorem w0y {g:List Im}:slcS (.f (fIm g))=some g.length:=id rfl
theorem x0U {g:List Im}{sz:Nat}{k:IntKind}{i:Int}{K:D→Prop}:idxS sz (.f (fIm g)) (.f (.v (.int k i))) K=((0≤i∧i<g.length)∧K (.rf ((g.flatMap Im.cs).drop (i.toNat*sz)))):=id rfl
theorem d0D {g:List Im}:(g.flatMap Im.cs).length=g.length*2:=b0E Im.cs_len g
theorem h0y {H:List Row}{g:List Im}{k:Nat}(hk:k<g.length):loadA H 2 (.rf ((g.flatMap Im.cs).drop (k*2)))=some (.ag ((Im.cs (gt g k)).map .f)):=b0T Im.cs_len hk
theorem j0v {g:List Im}{k:Nat}(hk:k<g.length):(g.flatMap Im.cs)[k*2+1]?=some (iF (gt g k).ver):=b0B (j:=1) Im.cs_len hk (by omega)
theorem v0p {l:List Im}{a b:Int}:l.flatMap Im.cs++[F.v (.int .i64 a),.v (.int .i64 b)]=(l++[(⟨a,b⟩:Im)]).flatMap Im.cs:=by simp [Im.cs]
theorem c1w:∀ {l:List Im} {k:Nat} {a:Int},k<l.length→(l.flatMap Im.cs).set (k*2) (.v (.int .i64 a))=(l.set k ⟨a,(gt l k).ver⟩).flatMap Im.cs
 | [],k,a,h=>by simp at h
 | x :: l,0,a,h=>rfl
 | x :: l,k+1,a,h=>by
  have ih:=c1w (l:=l) (k:=k) (a:=a) (by simpa using h)
  rw [List.set_cons_succ,List.flatMap_cons,List.flatMap_cons,show gt (x :: l) (k+1)=gt l k by simp [gt],←ih,show (k+1)*2=k*2+1+1 by omega]
  rfl
theorem LIm:type_of% @w0y∧type_of% @x0U:=⟨@w0y,@x0U⟩
def b0y (l:List Im)(id v:Int):List Im:=if 0<l.length∧(gt l (l.length-1)).ver=v then l.set (l.length-1) ⟨id,v⟩ else l++[⟨id,v⟩]
theorem b1h {l:List Im}{id v:Int}:(b0y l id v).length≤l.length+1:=by
 unfold b0y;split<;>simp
def ofA (first:Int):Nat→List Int→List Im→List Im
 | _,[],acc=>acc
 | i,v :: vs,acc=>ofA first (i+1) vs (b0y acc (first+i) v)
def h0e (vs:List Int)(first:Int):List Im:=ofA first 0 vs []
def ofL (l:List Ev):List Im:=if l=[] then [] else h0e (l.map (·.ver)) (gt l 0).id
set_option maxRecDepth 100000 in
theorem x0z (vs:List Int)(first:Int)(hv:vs.length≤1000000)(hf:0≤first∧first≤1000000000):Con Tryz.prog 74 [.f (fI vs),D.int first] [] fun r H'=>r = .f (fIm (h0e vs first))∧H'=[]:=by
 refine Con.walk good t0C (by simp) ?_
 unfold l0O
 simp only [a0J]
 refine HS.seq ?_
 repeat' (with_reducible first|refine Wa.h ?_|refine Wb.h fun K hK=>?_|(refine hK _ ?_;clear hK K)|((fail_if_success refine Wz.h ?_);simp (disch:=omega) only [↓LD,LA,a0A,seval]))
 refine HS.seq ?_
 repeat' (with_reducible first|refine Wa.h ?_|refine Wb.h fun K hK=>?_|(refine hK _ ?_;clear hK K)|((fail_if_success refine Wz.h ?_);simp (disch:=omega) only [↓LD,LA,a0A,seval]))
 refine HS.view (View.void 57) ?_
 refine HS.view (View.slot 5 (.sl 0 0 0) (.no (by decide))) ?_
 repeat' (with_reducible first|refine Wx.h ?_|refine Wb.h fun K hK=>?_|(refine hK _ ?_;clear hK K)|((fail_if_success refine Wz.h ?_);simp (disch:=omega) only [↓LD,LA,a0A,seval]))
 refine HS.loopG [0,1,5,6] (fun x:Nat × Nat × List Im=>⟨frm 51 [(0,.f (fI vs)),(1,D.int first),(5,.sl 0 0 x.2.1),(6,D.int x.1)],[.data 57 (x.2.2.flatMap Im.cs)],[]⟩) (fun x=>x.1≤vs.length∧x.2.1=x.2.2.length∧x.2.1≤x.1∧h0e vs first=ofA first x.1 (vs.drop x.1) x.2.2) (fun x=>vs.length-x.1) (0,0,[]) (by kernel_rfl) ⟨Nat.zero_le _,rfl,Nat.zero_le _,rfl⟩ ?_
 rintro ⟨i,n,out⟩ ⟨hi,hn,ho,he⟩
 dsimp only at hi hn ho he
 subst hn
 by_cases hil:i<vs.length
 ·rw [a0I hil,ofA] at he
  have e1:((out.length:Int)-1).toNat=out.length-1:=by omega
  by_cases h0:0<out.length
  ·by_cases hv1:(gt out (out.length-1)).ver=gt vs i
   ·have hgr:b0y out (first+i) (gt vs i)=out.set (out.length-1) ⟨first+i,gt vs i⟩:=if_pos ⟨h0,hv1⟩
    repeat' (with_reducible first|refine Wx.h ?_|refine We.h fun K hK=>?_|refine Wd.h fun K M hK hM=>?_|(refine hK _ _ _ _ ?_;clear hK K;try clear hM M)|refine Wb.h fun K hK=>?_|(refine hK _ ?_;clear hK K)|(refine Wy.h ?_ ?_;kernel_rfl)|refine Wq.h ?_ ?_<;>intro h<;>try (exfalso;omega)|((fail_if_success refine Wz.h ?_);first|simp (disch:=omega) only [↓LD,LA,a0A,seval,d0D,j0v,e1,hv1,c1w]|(refine And.intro ?_ ?_;omega)|fail))
    exact Next.mk (i+1,out.length,out.set (out.length-1) ⟨first+i,gt vs i⟩) (by kernel_rfl) ⟨by dsimp only;omega,by simp,by dsimp only;omega,by rw [he,hgr]⟩ (by dsimp only;omega)
   ·have hgr:b0y out (first+i) (gt vs i)=out++[⟨first+i,gt vs i⟩]:=if_neg (fun h=>hv1 h.2)
    repeat' (with_reducible first|refine Wx.h ?_|refine We.h fun K hK=>?_|refine Wd.h fun K M hK hM=>?_|(refine hK _ _ _ _ ?_;clear hK K;try clear hM M)|refine Wb.h fun K hK=>?_|(refine hK _ ?_;clear hK K)|(refine wF ?_ ?_;assumption)|(refine Wy.h ?_ ?_;kernel_rfl)|refine Wq.h ?_ ?_<;>intro h<;>try (exfalso;omega)|((fail_if_success refine Wz.h ?_);first|simp (disch:=omega) only [↓LD,LA,a0A,seval,d0D,j0v,e1,v0p]|(refine And.intro ?_ ?_;omega)|fail))
    exact Next.mk (i+1,out.length+1,out++[⟨first+i,gt vs i⟩]) (by kernel_rfl) ⟨by dsimp only;omega,by simp,by dsimp only;omega,by rw [he,hgr]⟩ (by dsimp only;omega)
  ·have hgr:b0y out (first+i) (gt vs i)=out++[⟨first+i,gt vs i⟩]:=if_neg (fun h=>h0 h.1)
   repeat' (with_reducible first|refine Wx.h ?_|refine We.h fun K hK=>?_|refine Wd.h fun K M hK hM=>?_|(refine hK _ _ _ _ ?_;clear hK K;try clear hM M)|(refine hM ?_;clear hM M;try clear hK K)|refine Wb.h fun K hK=>?_|(refine hK _ ?_;clear hK K)|(refine Wy.h ?_ ?_;kernel_rfl)|refine Wq.h ?_ ?_<;>intro h<;>try (exfalso;omega)|((fail_if_success refine Wz.h ?_);first|simp (disch:=omega) only [↓LD,LA,a0A,seval,d0D,j0v,e1,v0p]|(refine And.intro ?_ ?_;omega)|fail))
   exact Next.mk (i+1,out.length+1,out++[⟨first+i,gt vs i⟩]) (by kernel_rfl) ⟨by dsimp only;omega,by simp,by dsimp only;omega,by rw [he,hgr]⟩ (by dsimp only;omega)
 ·rw [List.drop_of_length_le (by omega),ofA] at he
  repeat' (with_reducible first|refine Wx.h ?_|refine Wb.h fun K hK=>?_|(refine hK _ ?_;clear hK K)|refine Wq.h ?_ ?_<;>intro h<;>try (exfalso;omega)|((fail_if_success refine Wz.h ?_);simp (disch:=omega) only [↓LD,LA,a0A,seval]))
  rw [he]
  exact end1 rfl rfl (by kernel_rfl) (.sl (T:=57) (xs:=out.flatMap Im.cs) rfl (fun e=>by rw [List.eq_nil_of_length_eq_zero e];rfl)) ⟨rfl,rfl⟩
theorem p0T:∀ (vs:List Int) (first:Int) (i:Nat) (acc:List Im),(ofA first i vs acc).length≤acc.length+vs.length
 | [],_,_,acc=>by simp [ofA]
 | v :: vs,first,i,acc=>by
  have h:=p0T vs first (i+1) (b0y acc (first+i) v)
  have h2:=b1h (l:=acc) (id:=first+i) (v:=v)
  rw [ofA,List.length_cons];omega
theorem g1r (l:List Ev):(ofL l).length≤l.length:=by
 unfold ofL h0e
 split
 ·simp
 ·have:=p0T (l.map (·.ver)) (gt l 0).id 0 []
  simpa using this
set_option maxRecDepth 100000 in
theorem g1W (l:List Ev)(hl:l.length≤1000000)(hid:l≠[]→0≤(gt l 0).id∧(gt l 0).id≤1000000000):Con Tryz.prog 39 [.f (fEv l)] [] fun r H'=>r = .f (fIm (ofL l))∧H'=[]:=by
 refine Con.walk good d1w (by simp) ?_
 unfold c1g
 simp only [a0J]
 refine HS.seq ?_
 repeat' (with_reducible first|refine Wa.h ?_|refine Wb.h fun K hK=>?_|(refine hK _ ?_;clear hK K)|((fail_if_success refine Wz.h ?_);simp (disch:=omega) only [↓LD,LA,a0A,seval]))
 refine HS.seq ?_
 repeat' (with_reducible first|refine Wa.h ?_|refine Wb.h fun K hK=>?_|(refine hK _ ?_;clear hK K)|((fail_if_success refine Wz.h ?_);simp (disch:=omega) only [↓LD,LA,a0A,seval]))
 refine HS.view (View.void 3) ?_
 refine HS.view (View.slot 3 (.sl 0 0 0) (.no (by decide))) ?_
 repeat' (with_reducible first|refine Wx.h ?_|refine Wb.h fun K hK=>?_|(refine hK _ ?_;clear hK K)|((fail_if_success refine Wz.h ?_);simp (disch:=omega) only [↓LD,LA,a0A,seval]))
 refine HS.loopG [0,3,4] (fun i:Nat=>⟨frm 28 [(0,.f (fEv l)),(3,.sl 0 0 i),(4,D.int i)],[.data 3 (((l.take i).map (·.ver)).map iF)],[]⟩) (fun i=>i≤l.length) (fun i=>l.length-i) 0 (by kernel_rfl) (Nat.zero_le _) ?_
 rintro i hi
 by_cases hil:i<l.length
 ·have hlen:(l.take i).length=i:=by rw [List.length_take];omega
  have ha:((l.take i).map (·.ver)).map iF++[.v (.int .i64 (gt l i).ver)]=((l.take (i+1)).map (·.ver)).map iF:=by
   rw [List.take_succ_eq_append_getElem hil,List.map_append,List.map_append,←a0v hil];rfl
  repeat' (with_reducible first|refine Wx.h ?_|refine Wb.h fun K hK=>?_|(refine hK _ ?_;clear hK K)|refine Wq.h ?_ ?_<;>intro h<;>try (exfalso;omega)|((fail_if_success refine Wz.h ?_);first|simp (disch:=omega) only [↓LD,LA,a0A,seval,LEv,g0d,a0K,Ev.cs,List.length_map,hlen,ha]|(refine And.intro ?_ ?_;omega)|fail))
  exact Next.mk (i+1) (by kernel_rfl) (by omega) (by omega)
 ·rw [List.take_of_length_le (by omega)]
  have hil:i=l.length:=by omega
  subst hil
  by_cases h0:l=[]
  ·subst h0
   repeat' (with_reducible first|refine Wx.h ?_|refine Wb.h fun K hK=>?_|(refine hK _ ?_;clear hK K)|((fail_if_success refine Wz.h ?_);simp (disch:=omega) only [↓LD,LA,a0A,seval,LEv]))
   exact end1 rfl rfl (by kernel_rfl) .nil ⟨rfl,rfl⟩
  ·have h0':¬ (l.length:Int)=0:=fun e=>h0 (List.eq_nil_of_length_eq_zero (by omega))
   obtain ⟨d1,d2⟩:=hid h0
   have ea:=b1M (g:=l) (k:=0) (by omega)
   rw [Nat.zero_mul] at ea
   repeat' (with_reducible first|refine Wx.h ?_|refine Wb.h fun K hK=>?_|(refine hK _ ?_;clear hK K)|(refine wF ?_ ?_;assumption)|refine Wq.h ?_ ?_<;>intro h<;>try (exfalso;omega)|((fail_if_success refine Wz.h ?_);first|simp (disch:=omega) only [↓LD,LA,a0A,seval,LEv,ea,a0K,Ev.cs]|(refine And.intro ?_ ?_;omega)|fail))
   have hl2:(l.map (·.ver)).length=l.length:=by simp
   refine d0M [0] (args0:=[.f (fI (l.map (·.ver))),D.int (gt l 0).id]) (.cons ?_ (.cons .f .nil)) ?_
   ·rw [fI,hl2]
    refine .sl (T:=3) (xs:=(l.map (·.ver)).map iF) ?_ (fun e=>absurd (List.eq_nil_of_length_eq_zero e) h0)
    rfl
   refine a0C (x0z (l.map (·.ver)) (gt l 0).id (by omega) ⟨d1,d2⟩) rfl rfl rfl ?_
   have ho:ofL l=h0e (l.map (·.ver)) (gt l 0).id:=if_neg h0
   rw [←ho]
   repeat' (with_reducible first|refine Wx.h ?_|(refine hK _ ?_;clear hK K)|((fail_if_success refine Wz.h ?_);simp (disch:=omega) only [↓LD,LA,a0A,seval]))
   exact end1 rfl rfl (by kernel_rfl) .f ⟨rfl,rfl⟩
def IdL (l:List Ev):Prop:=l.length≤1000000∧(l≠[]→0≤(gt l 0).id∧(gt l 0).id≤1000000000)
instance {l:List Ev}{H:List Row}{K:Bool→D→List Row→Prop}[hl:Kn (IdL l)]:Wa (a0m Tryz.prog (.fn 39 []) [.f (fEv l)] H K) (K true (.f (fIm (ofL l))) H):=⟨fun h=>a0O (g1W l hl.h.1 hl.h.2) rfl rfl rfl h⟩
def z0p (l:List Nd):Prop:=l.length≤1000000∧∀ x∈l,x.ns.length≤1000000
theorem d1a {H:List Row}{g:List Nd}{k:Nat}(hk:k<g.length):loadA H 3 (.rf ((g.flatMap Nd.cs).drop (k*3)))=some (.ag ((Nd.cs (gt g k)).map .f)):=b0T Nd.cs_len hk
theorem h1M {g:List Nd}:(g.flatMap Nd.cs).length=g.length*3:=b0E Nd.cs_len g
theorem FitV.df {e:Ev}(h:FitV e):z0p e.defs:=⟨by have:=h.2.2.1;omega,fun x hx=>by have:=h.2.2.2 x hx;omega⟩
def FitL (l:List Ev):Prop:=l.length≤1000000∧∀ e∈l,FitV e
noncomputable def begB (a b:List Ev):Bool:=decide (a.length≤b.length)&&eqB a (b.take a.length)
theorem g0D {H:List Row}{E:TypeId}{b:List Ev}{h:Nat}(hh:h≤b.length):subS H 9 E (.f (fEv b)) 0 h=some (.f (fEv (b.take h))):=by
 rw [fEv,p0l,fEv,List.length_take,Nat.min_eq_left hh]
 have key:∀ (l:List Ev) (k:Nat),(l.flatMap Ev.cs).take (k*9)=(l.take k).flatMap Ev.cs:=by
  intro l
  induction l with
  | nil=>intro k;simp
  | cons e l ih =>
   intro k
   cases k with
   | zero=>simp
   | succ k =>
    rw [List.take_succ_cons,List.flatMap_cons,List.flatMap_cons,List.take_append,List.take_of_length_le (by rw [Ev.cs_len];omega),Ev.cs_len,show (k+1)*9-9=k*9 by omega,ih]
 simp [key]
abbrev Br:=List (List Ev)
def fBr (t:Br):F:=.s (t.map fEv) t.length
theorem w0q {g:Br}:slcS (.f (fBr g))=some g.length:=id rfl
theorem x0k {g:Br}{sz:Nat}{k:IntKind}{i:Int}{K:D→Prop}:idxS sz (.f (fBr g)) (.f (.v (.int k i))) K=((0≤i∧i<g.length)∧K (.rf ((g.map fEv).drop (i.toNat*sz)))):=id rfl
theorem l0V {P:Program}{H:List Row}{r off:Nat}{ds:List D}:c0t P H 1 (.pt r off) (.ag ds)=c0V P H 1 r off (.ag ds) H[r]?:=c0N
theorem LBr:type_of% @w0q∧type_of% @x0k∧type_of% @l0V:=⟨@w0q,@x0k,@l0V⟩
theorem w0J {l:Br}{x:List Ev}:l.map fEv++[fEv x]=(l++[x]).map fEv:=by rw [List.map_append];rfl
def a0b (l:List Im):Im:=if l.length=0 then ⟨0,0⟩ else gt l (l.length-1)
def cmpI (a b:List Im):Int:=if (a0b a).ver<(a0b b).ver then -1 else if (a0b a).ver≠(a0b b).ver then 1 else if (a0b a).id<(a0b b).id then -1 else if (a0b b).id<(a0b a).id then 1 else 0
structure TrK (t:Br):Prop where
 len:t.length≤8
 ok:∀ b∈t,BrOk b∧b≠[]
theorem BrOk.fitL {l:List Ev}(h:BrOk l):FitL l:=⟨by have:=h.len;omega,h.fit⟩
theorem BrOk.idL {l:List Ev}(h:BrOk l):IdL l:=⟨by have:=h.len;omega,fun ne=>by
 have:=(rightE_iff.1 (h.right (a0M (Nat.pos_of_ne_zero fun e=>ne (List.eq_nil_of_length_eq_zero e))))).2.1
 omega⟩
theorem BrOk.ofK {l:List Ev}(h:BrOk l):(ofL l).length≤1000000:=by have:=h.len;have:=g1r l;omega
theorem TrK.gt {t:Br}(h:TrK t){i:Nat}(hi:i<t.length):BrOk (gt t i)∧gt t i≠[]:=h.ok _ (a0M hi)
theorem q0T {H:List Row}{b e:D}(hb:Vw H b b)(he:Vw H e e):Vw H (.tp [.ag [jN],b,e]) (.tp [.ag [.f (fBr [])],b,e]):=.tps (.cons (.ags (.cons .nil .nil)) (.cons hb (.cons he .nil)))
def a0i (b:List Ev):Int:=(gt b (b.length-1)).ver
def posK (l:List Ev):Br→Nat
 | []=>0
 | b :: t=>if 0<cmpI (ofL b) (ofL l) then posK l t+1 else 0
theorem c1G {l:List Ev}:∀ {t:Br},posK l t≤t.length
 | []=>Nat.le_refl _
 | b :: t=>by
  have:=c1G (l:=l) (t:=t)
  rw [posK,List.length_cons];split<;>omega
def f0W:SCode :=
  (jq ([.a 10 (.mv kN)]) (jq ((ap [.a 15 (.bsl 73 9 0 [] []),jm 16 0,jm 17 1,jm 18 0,je 19 18,jb 20 .add 19 1,.a 21 (.call (kC 13) [(.t 17),(.t
 20)])] (ap [.a 22 (.sub 9 73 (.t 16) none (some (.t 21)) none),.a 23 (.app 73 9 112 (.t 15) (.t 22))] [jm 11 23]))) (jq ([jk 12 0]) (.seq (jq ([jm 24
 11,je 25 24,jb 26 .gtr 25 0]) (jc 26 (.ops [jm 27 11,jm 28 11,je 29 28,jb 30 .sub 29 1,jx 31 9 27 30,jo 32 2 31,jl 33 32,jm 12 33]) .skip))
 (jq ((ap [jm 35 11,jm 36 2,jm 37 12,.a 38 (.call (kC 72) [(.t 35),(.t 36),(.t 37)])] [jm 34 38,jE 39 0 34,jE 40 1 34,jm 13 39,jm 14 40]))
 (.seq (jq ([jm 41 14,jb 42 .neq 41 0]) (jc 42 (jq ([jm 43 11,jm 10 43]) .ret) .skip)) (.seq (jq ([jm 44 13,jn 45 44,jo 46 0 45,jo 47 0 46,jl 48
 47,jb 49 .eql 48 0]) (jc 49 (.ops (ap [jm 50 13,jm 51 4,.a 52 (.call (kC 90) [(.t 51),(kI 7)])] [.a 53 (.call (kC 89) [(.t 50),(.t 52)])])) (.ops
 (ap [jm 54 13,jm 55 2,.a 56 (.call (kC 92) [(.t 55)])] (ap [jm 57 1,.a 58 (.call (kC 92) [(.t 57)])] [jB 59 .add 56 58,.a 60 (.call (kC 91) [(.t
 54),(.t 59),kN])]))))) (.seq (jq ([jm 61 13,jn 62 61,jo 63 11 62,jl 64 63,je 65 64,jb 66 .eql 65 0]) (jc 66 (jq ([jm 67 11,jm 10 67]) .ret)
 .skip)) (jq ((ap [jm 68 11,jm 69 13,jn 70 69,jo 71 11 70,jl 72 71,.a 73 (.app 73 9 112 (.t 68) (.t 72))] (ap [jm 74 3,jm 75 4,.a 76 (.call (kC
 37) [(.t 73),(.t 74),(.t 75)])] [jm 10 76]))) .ret)))))))))
theorem k0v:Fn Tryz.prog 57 77 [.t 10] f0W:=.of Tryz.func57 (by kernel_rfl)
def e0O:SCode :=
  (jq ([.a 1 (.box 48 (.t 0)),.a 2 (.mv kN)]) (jq ([.a 3 (.mv kN)]) (jq ([jk 4 0]) (.seq (jq ([jk 5 0]) (.block 0 (.loop (.seq (jq ((ap [jm 9 5,jo 10 0
 1,jl 11 10,je 12 11,jB 13 .lss 9 12] (ap [jm 14 13,gM 15 5 14 true] (ap [jG 16 (.bin .lss (.t 15) (kI 5)) 14 true] [.a 17 (.pick (.t 14) (.t 16)
 kF)])))) (jc 17 .skip (.exit 0))) (.seq (.block 1 (.seq (jq ([jm 20 5,jb 21 .eql 20 0]) (jc 21 (.drw [jm 22 3,jo 23 0 1,jl 24 23,.a 25 (.idx 1 (.t
 24) (kI 0)),jl 26 25,jo 27 2 1,jl 28 27,.a 29 (.call (kC 9) [(.t 26),(.t 28)]),.a 30 (.bsl 25 1 1 [jN] [(0,(.t 29))]),.a 31 (.app 25 1 24 (.t
 22) (.t 30)),jm 3 31] [0,0,2,6,14,0,32,126,254,511,1023]) (jq ((ap [jm 32 3,jm 33 5,jb 34 .mul 33 7,jo 35 1 1,jl 36 35,je 37 36,jB 38
 .add 34 37,jm 39 3,je 40 39,.a 41 (.call (kC 13) [(.t 38),(.t 40)])] [jx 42 1 32 41,jl 43 42,jm 6 43])) (jq ([jk 7 0]) (.seq (jq ([jm 44 5,jo 45
 1 1,jl 46 45,je 47 46,jB 48 .lss 44 47]) (jc 48 (.ops [jo 49 1 1,jl 50 49,jm 51 5,jx 52 1 50 51,jl 53 52,jm 7 53]) .skip)) (.drw [jm 54 3,jm
 55 6,jm 56 7,jm 57 4,jm 58 5,jb 59 .rem 58 2,.a 60 (.bin .add (kI 1) (.t 59)),.a 61 (.call (kC 58) [(.t 57),(.t 60)]),jo 62 0 1,jl 63 62,jm
 64 5,jx 65 1 63 64,jl 66 65,jo 67 2 1,jl 68 67,.a 69 (.call (kC 57) [(.t 55),(.t 56),(.t 61),(.t 66),(.t 68)]),.a 70 (.bsl 25 1 1 [jN] [(0,
 (.t 69))]),.a 71 (.app 25 1 24 (.t 54) (.t 70)),jm 3 71] [0,0,0,0,0,16,48,120,0,256,0,1792,3840,0,8192,32766,65534,131071,
 262143])))))) (jq ([jm 72 3,jm 73 3,je 74 73,jb 75 .sub 74 1,jx 76 1 72 75,jl 77 76,jm 8 77]) (jq ([jm 78 8,je 79 78,jb 80 .gtr 79 0]) (jc 80
 (.ops [jm 81 4,jm 82 8,jm 83 8,je 84 83,jb 85 .sub 84 1,jx 86 9 82 85,jo 87 1 86,jl 88 87,.a 89 (.mm true (.t 81) (.t 88)),jm 4 89])
 .skip))))) (.ops [jm 18 5,jb 19 .add 18 1,jm 5 19])))))) (jq ([jm 90 3,jm 2 90]) .ret)))))
theorem h0s:Fn Tryz.prog 23 91 [.t 2] e0O:=.of Tryz.func23 (by kernel_rfl)
end Go.Proofs.YthjgmldnegaaiaaGreatDoor.Mir
