/- Lemmas for the proof. No condition. -/
import Derived.Test.YthjgmldnegaaiaaGreatDoorQf12
set_option linter.unusedVariables false
set_option linter.unusedSimpArgs false
namespace Go.Proofs.YthjgmldnegaaiaaGreatDoor.Mir
open Go Go.RowKit
set_option maxHeartbeats 4000000
theorem HS.cutK {P:Program}{n:Nat}{c:SCode}{s:St}{Q:Out→St→Prop}(i:Nat){α:Type}(st:α→St)(p:α→Prop)
  (h1:∀ K:Out→St→Prop,(∀ y,p y→∀ s',View P n s' (st y)→K (.exit i) s')→(∀ s',Q .ret s'→K .ret s')→HS P n c s K) (h2:∀ y,p y→∀ s',View P n s' (st y)→Q (.exit i) s'):HS P n c s Q:=h1 Q h2 fun _ h=>h
theorem l0j {now:Int}:∀ {f g:Nat} {p:Pn} {n:Int},unf p.s.tms<f→unf p.s.tms<g→e0q now f p n=e0q now g p n
 | 0,_,_,_,h,_=>absurd h (by omega)
 | _,0,_,_,_,h=>absurd h (by omega)
 | f+1,g+1,p,n,hf,hg=>by
  rw [e0q,e0q]
  by_cases a1:p.s.closed≠0
  ·rw [if_pos a1,if_pos a1]
  rw [if_neg a1,if_neg a1]
  by_cases a2:d0O now p.s.tms 0 (-1) p.s.tms<0
  ·rw [if_pos a2,if_pos a2]
  rw [if_neg a2,if_neg a2]
  by_cases a3:(a0O p ⟨0,0,0,6,0,0,(gt p.s.tms (d0O now p.s.tms 0 (-1) p.s.tms).toNat).name,[],[]⟩).1≠0
  ·rw [if_pos a3,if_pos a3]
  rw [if_neg a3,if_neg a3]
  have:=k0x (Decidable.not_not.1 a3)
  exact l0j (by omega) (by omega)
set_option maxRecDepth 100000 in
theorem x0b (b:S12)(p:Pn)(h:PnOk b p):Con Tryz.prog 119 [.pt 0 0] [pnB p] fun r H'=>r=D.int (e0z p).1∧H'=[pnB (e0z p).2]:=by
  suffices hh:∀ Q:D→List Row→Prop,(∀ r H',r=D.int (e0z p).1→H'=[pnB (e0z p).2]→Q r H')→Con Tryz.prog 119 [.pt 0 0] [pnB p] Q from hh _ fun _ _ h1 h2=>⟨h1,h2⟩
  intro Q hQ
  unfold e0z at hQ
  refine Con.walk good s0a (by simp) ?_
  unfold m0L
  simp only [a0I,pnB,pnD]
  have hnl:=h.ok.wk.fit.fit.nodes
  generalize hN:max p.now p.s.time=N at hQ
  repeat' (with_reducible first|refine Wx.h ?_|refine We.h fun K hK=>?_|(refine hK _ _ _ _ ?_;clear hK K;try clear hM M)|refine Wb.h fun K hK=>?_|(refine hK _ ?_;clear hK K)|(refine Wy.h ?_ ?_;kernel_rfl)|((fail_if_success refine Wz.h ?_);simp (disch:=omega) only [↓LD,LA,a0A,seval,hN]))
  refine HS.cutK 0 (fun x:Pn × Int=>⟨frm 163 [(0,.pt 0 0),(3,D.int x.2),(4,D.int N)],[pnB x.1],[]⟩) (fun x=>PnOk b x.1∧0≤x.2∧x.2≤1000000∧d0H N p.s.nodes.length 0 p 0=(x.2,x.1,false)) ?_ ?_
  · intro K hx hr
    refine HS.loopG [0,3,4,5] (fun x:Nat × Pn × Int=>⟨frm 163 [(0,.pt 0 0),(3,D.int x.2.2),(4,D.int N),(5,D.int x.1)],[pnB x.2.1],[]⟩)
      (fun x=>x.1≤p.s.nodes.length∧x.2.1.s.nodes.length=p.s.nodes.length∧PnOk b x.2.1∧0≤x.2.2∧x.2.2≤x.1∧d0H N p.s.nodes.length 0 p 0=d0H N (p.s.nodes.length-x.1) x.1 x.2.1 x.2.2) (fun x=>p.s.nodes.length-x.1) (0,p,0) (by kernel_rfl) ⟨Nat.zero_le _,rfl,h,by simp,by simp,rfl⟩ ?_
    rintro ⟨i,⟨s,ver,now,out⟩,n⟩ ⟨hi,hl,ho,hn0,hn1,hF⟩
    dsimp only at hi hl ho hn0 hn1 hF
    by_cases hil:i<p.s.nodes.length
    · rw [show p.s.nodes.length-i=(p.s.nodes.length-(i+1))+1 by omega,d0H] at hF
      dsimp only at hF
      have hok:=ho.ok
      have hid:s.id≠0:=fun hh=>by have:=hok.wk.zero.2 hh;dsimp only at this;omega
      have hlen:=ho.len
      haveI:Kn (Ok12 s):=⟨hok⟩
      haveI:Kn (out.length≤1000000):=⟨by dsimp only at hlen;omega⟩
      have hw:=b0C (e:=⟨0,0,0,4,i,(gt s.nodes i).tr,[],[],[]⟩) ho (b0t (by simp) (by simp) c0P)
      have hwl:=x0j (e:=⟨0,0,0,4,i,(gt s.nodes i).tr,[],[],[]⟩) ho (b0t (by simp) (by simp) c0P) hid
      repeat' (with_reducible first|refine Wx.h ?_|refine Wb.h fun K hK=>?_|(refine hK _ ?_;clear hK K)|refine Wq.h ?_ ?_<;>intro h<;>try (exfalso;omega)|((fail_if_success refine Wz.h ?_);first|simp (disch:=omega) only [↓LD,LA,a0A,seval,LSt,pnB,pnD,c0s,a0h,Nn.cs,-a0A,List.map_cons,List.map_nil]|(refine And.intro ?_ ?_;omega)|fail))
      · rw [if_neg (fun hh=>hh (show s.closed=0 by assumption)),if_neg (fun hh=>hh (by assumption)),if_pos (by assumption)] at hF
        exact Next.mk (i+1,⟨s,ver,now,out⟩,n) (by kernel_rfl) ⟨by omega,hl,ho,hn0,by dsimp only;omega,hF⟩ (by dsimp only;omega)
      · have hz:(a0O ⟨s,ver,now,out⟩ ⟨0,0,0,4,i,(gt s.nodes i).tr,[],[],[]⟩).1=0:=by assumption
        rw [if_neg (fun hh=>hh (show s.closed=0 by assumption)),if_neg (fun hh=>hh (by assumption)),if_neg (by assumption),if_neg (fun hh=>hh hz)] at hF
        exact Next.mk (i+1,(a0O ⟨s,ver,now,out⟩ ⟨0,0,0,4,i,(gt s.nodes i).tr,[],[],[]⟩).2,n+1) (by kernel_rfl) ⟨by omega,hwl.trans hl,hw,by dsimp only;omega,by dsimp only;omega,hF⟩ (by dsimp only;omega)
      · have hz:(a0O ⟨s,ver,now,out⟩ ⟨0,0,0,4,i,(gt s.nodes i).tr,[],[],[]⟩).1≠0:=by assumption
        rw [if_neg (fun hh=>hh (show s.closed=0 by assumption)),if_neg (fun hh=>hh (by assumption)),if_neg (by assumption),if_pos hz] at hF
        rw [hF,if_pos rfl] at hQ
        refine hr _ ?_
        repeat' (with_reducible first|refine Wx.h ?_|fail)
        exact end1 rfl rfl (by kernel_rfl) .f (hQ _ _ rfl rfl)
      · rw [if_neg (fun hh=>hh (show s.closed=0 by assumption)),if_pos (by assumption)] at hF
        exact Next.mk (i+1,⟨s,ver,now,out⟩,n) (by kernel_rfl) ⟨by omega,hl,ho,hn0,by dsimp only;omega,hF⟩ (by dsimp only;omega)
      · rw [if_pos (show s.closed≠0 by assumption)] at hF
        exact hx (⟨s,ver,now,out⟩,n) ⟨ho,hn0,by dsimp only;omega,hF⟩ _ (View.sweep (keep:=[0,3,4]) (by kernel_rfl))
    · rw [show p.s.nodes.length-i=0 by omega,d0H] at hF
      repeat' (with_reducible first|refine Wx.h ?_|refine Wb.h fun K hK=>?_|(refine hK _ ?_;clear hK K)|refine Wq.h ?_ ?_<;>intro h<;>try (exfalso;omega)|((fail_if_success refine Wz.h ?_);simp (disch:=omega) only [↓LD,LA,a0A,seval,LSt,pnB,pnD]))
      exact hx (⟨s,ver,now,out⟩,n) ⟨ho,hn0,by dsimp only;omega,hF⟩ _ (View.sweep (keep:=[0,3,4]) (by kernel_rfl))
  · rintro ⟨q,n⟩ ⟨ho,hn0,hn1,hF⟩ s' hv
    refine e0W ?_
    refine o0G ?_
    refine HS.view hv ?_
    clear hv
    dsimp only at ho hn0 hn1 hF ⊢
    rw [hF,if_neg (by simp)] at hQ
    dsimp only at hQ
    clear hF
    generalize hLL:e0q N (unf q.s.tms+1) q n=LL at hQ
    repeat' (with_reducible first|refine Wx.h ?_|fail)
    have hu0:=ho.ok.tms
    have hu1:∀ l:List Tm,unf l≤l.length:=fun l=>List.countP_le_length
    have hu2:=hu1 q.s.tms
    refine HS.loopG [0,3,4] (fun x:Pn × Int=>⟨frm 163 [(0,.pt 0 0),(3,D.int x.2),(4,D.int N)],[pnB x.1],[]⟩)
      (fun x=>PnOk b x.1∧0≤x.2∧x.2+unf x.1.s.tms≤2000000∧LL=e0q N (unf x.1.s.tms+1) x.1 x.2) (fun x=>unf x.1.s.tms) (q,n) (by kernel_rfl) ⟨ho,hn0,by dsimp only;omega,hLL.symm⟩ ?_
    clear ho hn0 hn1 hu0 hu2 hLL
    rintro ⟨⟨s,ver,now,out⟩,m⟩ ⟨ho,hn0,hn1,hF⟩
    dsimp only at ho hn0 hn1 hF
    have hok:=ho.ok
    dsimp only at hok
    have hlen:=ho.len
    haveI:Kn (Ok12 s):=⟨hok⟩
    haveI:Kn (out.length≤1000000):=⟨by dsimp only at hlen;omega⟩
    have htl:=hok.tms
    rw [e0q] at hF
    repeat' (with_reducible first|refine Wx.h ?_|refine Wb.h fun K hK=>?_|(refine hK _ ?_;clear hK K)|refine Wq.h ?_ ?_<;>intro h|((fail_if_success refine Wz.h ?_);simp (disch:=omega) only [↓LD,LA,a0A,seval,LSt,pnB,pnD]))
    rotate_left
    · rw [if_pos (show s.closed≠0 by assumption)] at hF
      rw [hF] at hQ
      exact end1 rfl rfl (by kernel_rfl) .f (hQ _ _ rfl rfl)
    have hcl:s.closed=0:=by assumption
    rw [if_neg (fun hh=>hh hcl)] at hF
    refine HS.loopG [0,3,4,7,8] (fun x:Nat × Int=>⟨frm 163 [(0,.pt 0 0),(3,D.int m),(4,D.int N),(7,D.int x.2),(8,D.int x.1)],[pnB ⟨s,ver,now,out⟩],[]⟩)
      (fun x=>x.1≤s.tms.length ∧ -1≤x.2∧x.2<x.1∧d0O N s.tms 0 (-1) s.tms=d0O N s.tms x.1 x.2 (s.tms.drop x.1)) (fun x=>s.tms.length-x.1) (0,-1) (by kernel_rfl) ⟨Nat.zero_le _,by simp,by simp,rfl⟩ ?_
    rintro ⟨j,k⟩ ⟨hj,hk0,hk1,hP⟩
    dsimp only at hj hk0 hk1 hP
    by_cases hjl:j<s.tms.length
    · rw [a0G hjl,d0O] at hP
      have hbT:befT (gt s.tms j) (gt s.tms k.toNat)=true↔(gt s.tms j).due<(gt s.tms k.toNat).due∨((gt s.tms j).due=(gt s.tms k.toNat).due∧Op.bytesLess (BB (gt s.tms j).name).toList (BB (gt s.tms k.toNat).name).toList=true):=by simp only [befT,g1K,Bool.or_eq_true,Bool.and_eq_true,decide_eq_true_eq]
      repeat' (with_reducible first|refine Wx.h ?_|refine We.h fun K hK=>?_|refine Wd.h fun K M hK hM=>?_|(refine hK _ _ _ _ ?_;clear hK K;try clear hM M)|(refine hM ?_;clear hM M;try clear hK K)|refine Wb.h fun K hK=>?_|(refine hK _ ?_;clear hK K)|(refine Wy.h ?_ ?_;kernel_rfl)|refine Wq.h ?_ ?_<;>intro h<;>try (exfalso;omega)|refine Wu.h ?_ ?_<;>intro h<;>try simp only [h]|((fail_if_success refine Wz.h ?_);first|simp (disch:=omega) only [↓LD,LA,a0A,seval,LSt,pnB,pnD,h0X,e0s,g0B,k0C,Tm.cs,-a0A,List.map_cons,List.map_nil]|(refine And.intro ?_ ?_;omega)|fail))
      all_goals first
        | (rw [if_pos (show (gt s.tms j).fired=true by assumption)] at hP
           exact Next.mk (j+1,k) (by kernel_rfl) ⟨by dsimp only;omega,hk0,by dsimp only;omega,hP⟩ (by dsimp only;omega))
        | (rw [if_neg (by rw [show (gt s.tms j).fired=false by assumption];simp),if_pos (show N<(gt s.tms j).due by assumption)] at hP
           exact Next.mk (j+1,k) (by kernel_rfl) ⟨by dsimp only;omega,hk0,by dsimp only;omega,hP⟩ (by dsimp only;omega))
        | (rw [if_neg (by rw [show (gt s.tms j).fired=false by assumption];simp),if_neg (show ¬ N<(gt s.tms j).due by assumption),if_pos (.inl (show k<0 by assumption))] at hP
           exact Next.mk (j+1,(j:Int)) (by kernel_rfl) ⟨by dsimp only;omega,by dsimp only;omega,by dsimp only;omega,hP⟩ (by dsimp only;omega))
        | (rw [if_neg (by rw [show (gt s.tms j).fired=false by assumption];simp),if_neg (show ¬ N<(gt s.tms j).due by assumption),if_pos (.inr (hbT.2 (.inl (show (gt s.tms j).due<(gt s.tms k.toNat).due by assumption))))] at hP
           exact Next.mk (j+1,(j:Int)) (by kernel_rfl) ⟨by dsimp only;omega,by dsimp only;omega,by dsimp only;omega,hP⟩ (by dsimp only;omega))
        | (rw [if_neg (by rw [show (gt s.tms j).fired=false by assumption];simp),if_neg (show ¬ N<(gt s.tms j).due by assumption),if_pos (.inr (hbT.2 (.inr ⟨show (gt s.tms j).due=(gt s.tms k.toNat).due by assumption,show Op.bytesLess (BB (gt s.tms j).name).toList (BB (gt s.tms k.toNat).name).toList=true by assumption⟩)))] at hP
           exact Next.mk (j+1,(j:Int)) (by kernel_rfl) ⟨by dsimp only;omega,by dsimp only;omega,by dsimp only;omega,hP⟩ (by dsimp only;omega))
        | (rw [if_neg (by rw [show (gt s.tms j).fired=false by assumption];simp),if_neg (show ¬ N<(gt s.tms j).due by assumption),if_neg (fun hh=>hh.elim (show ¬ k<0 by assumption) (fun hb=>(hbT.1 hb).elim (show ¬ (gt s.tms j).due<(gt s.tms k.toNat).due by assumption) (fun he=>(show ¬ (gt s.tms j).due=(gt s.tms k.toNat).due by assumption) he.1)))] at hP
           exact Next.mk (j+1,k) (by kernel_rfl) ⟨by dsimp only;omega,hk0,by dsimp only;omega,hP⟩ (by dsimp only;omega))
        | (rw [if_neg (by rw [show (gt s.tms j).fired=false by assumption];simp),if_neg (show ¬ N<(gt s.tms j).due by assumption),if_neg (fun hh=>hh.elim (show ¬ k<0 by assumption) (fun hb=>(hbT.1 hb).elim (show ¬ (gt s.tms j).due<(gt s.tms k.toNat).due by assumption) (fun he=>(show ¬ Op.bytesLess (BB (gt s.tms j).name).toList (BB (gt s.tms k.toNat).name).toList=true by assumption) he.2)))] at hP
           exact Next.mk (j+1,k) (by kernel_rfl) ⟨by dsimp only;omega,hk0,by dsimp only;omega,hP⟩ (by dsimp only;omega))
    · rw [List.drop_of_length_le (by omega),d0O] at hP
      rw [hP] at hF
      have hn16:0≤k→(gt s.tms k.toNat).name.length≤16:=fun hk=>hok.tname _ (a0K (l:=s.tms) (k:=k.toNat) (by omega))
      by_cases hkz:k<0
      · repeat' (with_reducible first|refine Wx.h ?_|refine Wb.h fun K hK=>?_|(refine hK _ ?_;clear hK K)|(refine wT ?_ ?_;assumption)|refine Wq.h ?_ ?_<;>intro h<;>try (exfalso;omega)|((fail_if_success refine Wz.h ?_);simp (disch:=omega) only [↓LD,LA,a0A,seval,LSt,pnB,pnD,h0X,e0s,g0B,k0C,Tm.cs,-a0A,List.map_cons,List.map_nil]))
        rw [if_pos hkz] at hF
        rw [hF] at hQ
        exact end1 rfl rfl (by kernel_rfl) .f (hQ _ _ rfl rfl)
      rw [if_neg hkz] at hF
      have hn17:=hn16 (by omega)
      haveI:Kn ((gt s.tms k.toNat).name.length≤1000000):=⟨by omega⟩
      have hw:=b0C (e:=⟨0,0,0,6,0,0,(gt s.tms k.toNat).name,[],[]⟩) ho (b0t (by omega) (by simp) c0P)
      have hwu:=k0x (p:=⟨s,ver,now,out⟩) (nm:=(gt s.tms k.toNat).name)
      have hu2:=hu1 s.tms
      repeat' (with_reducible first|refine Wx.h ?_|refine Wb.h fun K hK=>?_|(refine hK _ ?_;clear hK K)|(refine wF ?_ ?_;assumption)|refine Wq.h ?_ ?_<;>intro h<;>try (exfalso;omega)|((fail_if_success refine Wz.h ?_);first|simp (disch:=omega) only [↓LD,LA,a0A,seval,LSt,pnB,pnD,h0X,e0s,g0B,k0C,Tm.cs,-a0A,List.map_cons,List.map_nil]|(refine And.intro ?_ ?_;omega)|fail))
      · have hz:(a0O ⟨s,ver,now,out⟩ ⟨0,0,0,6,0,0,(gt s.tms k.toNat).name,[],[]⟩).1=0:=by assumption
        have hwu:=hwu hz
        dsimp only at hwu hn1
        rw [if_neg (fun hh=>hh hz)] at hF
        refine Next.mk ((a0O ⟨s,ver,now,out⟩ ⟨0,0,0,6,0,0,(gt s.tms k.toNat).name,[],[]⟩).2,m+1) (by kernel_rfl) ⟨hw,by dsimp only;omega,by dsimp only;omega,?_⟩ (by dsimp only;omega)
        dsimp only
        rw [hF]
        exact l0j hwu (Nat.lt_succ_self _)
      · have hz:(a0O ⟨s,ver,now,out⟩ ⟨0,0,0,6,0,0,(gt s.tms k.toNat).name,[],[]⟩).1≠0:=by assumption
        rw [if_pos hz] at hF
        rw [hF] at hQ
        exact end1 rfl rfl (by kernel_rfl) .f (hQ _ _ rfl rfl)
instance {s:S12}{ver now:Int}{out:List Ev}{H:List Row}{K:D→List Row→Prop}{ds:List Nd}[ho:Kn (Ok12 s)][hl:Kn (out.length≤1000000)][k1:Kn (Fit ds)] :
  Wa (a0P Tryz.prog (.fn 89 []) [.pt 0 0,.f (fG ds)] (.box 121 [.f (.v (.int .i64 s.id)),.f (.v (.int .i64 s.ver)),.f (.v (.int .i64 s.time)),.f (.v (.int .i64 s.closed)),.f (.v (.bool s.cancel)),.f (fG s.defs),.f (fNn s.nodes),.f (fTm s.tms),.f (fSg s.sgs),.f (.v (.int .i64 ver)),.f (.v (.int .i64 now)),.f (fEv out)] :: H) K) (K (.f (.v (.int .i64 (b0k ⟨s,ver,now,out⟩ ds).1))) (pnB (b0k ⟨s,ver,now,out⟩ ds).2 :: H)):=⟨fun h =>
 b0o (e0p ⟨s,ver,now,out⟩ ds ho.h hl.h k1.h) rfl rfl (fun _=>rfl) (fun _=>rfl) (fun _=>rfl) (fun _=>rfl) h⟩
instance {s:S12}{ver now:Int}{out:List Ev}{H:List Row}{K:D→List Row→Prop}  [ho:Kn (Ok12 s)][hl:Kn (out.length≤1000000)] :
  Wa (a0P Tryz.prog (.fn 115 []) [.pt 0 0] (.box 121 [.f (.v (.int .i64 s.id)),.f (.v (.int .i64 s.ver)),.f (.v (.int .i64 s.time)),.f (.v (.int .i64 s.closed)),.f (.v (.bool s.cancel)),.f (fG s.defs),.f (fNn s.nodes),.f (fTm s.tms),.f (fSg s.sgs),.f (.v (.int .i64 ver)),.f (.v (.int .i64 now)),.f (fEv out)] :: H) K) (K (.tp [.f (.v (.int .i64 (b0s ⟨s,ver,now,out⟩).1.1)),.f (.v (.int .i64 (b0s ⟨s,ver,now,out⟩).1.2.1)),.f (.v (.int .i64 (b0s ⟨s,ver,now,out⟩).1.2.2))]) (pnB (b0s ⟨s,ver,now,out⟩).2 :: H)):=⟨fun h =>
 b0o (s0h ⟨s,ver,now,out⟩ ho.h hl.h) rfl rfl (fun _=>rfl) (fun _=>rfl) (fun _=>rfl) (fun _=>rfl) h⟩
instance {s:S12}{ver now:Int}{out:List Ev}{H:List Row}{K:Bool→D→List Row→Prop}{i t:Int}{ok:Bool}{d:Bs}[ho:Kn (Ok12 s)][hl:Kn (out.length≤1000000)][k1:Kn (d.length≤1000000)] :
  Wa (a0k Tryz.prog (.fn 116 []) [.pt 0 0,.f (.v (.int .i64 i)),.f (.v (.int .i64 t)),.f (.v (.bool ok)),.f (fY d)] (.box 121 [.f (.v (.int .i64 s.id)),.f (.v (.int .i64 s.ver)),.f (.v (.int .i64 s.time)),.f (.v (.int .i64 s.closed)),.f (.v (.bool s.cancel)),.f (fG s.defs),.f (fNn s.nodes),.f (fTm s.tms),.f (fSg s.sgs),.f (.v (.int .i64 ver)),.f (.v (.int .i64 now)),.f (fEv out)] :: H) K) (K true (.f (.v (.int .i64 (b0O ⟨s,ver,now,out⟩ i t ok d).1))) (pnB (b0O ⟨s,ver,now,out⟩ i t ok d).2 :: H)):=⟨fun h =>
 f0z (p0O ⟨s,ver,now,out⟩ i t ok d ho.h hl.h k1.h) rfl rfl (fun _=>rfl) (fun _=>rfl) (fun _=>rfl) (fun _=>rfl) h⟩
instance {s:S12}{ver now:Int}{out:List Ev}{H:List Row}{K:Bool→D→List Row→Prop}{nm:Bs}{t:Int}[ho:Kn (Ok12 s)][hl:Kn (out.length≤1000000)][k1:Kn (nm.length≤1000000)] :
  Wa (a0k Tryz.prog (.fn 118 []) [.pt 0 0,.f (.v (.string (BB nm))),.f (.v (.int .i64 t))] (.box 121 [.f (.v (.int .i64 s.id)),.f (.v (.int .i64 s.ver)),.f (.v (.int .i64 s.time)),.f (.v (.int .i64 s.closed)),.f (.v (.bool s.cancel)),.f (fG s.defs),.f (fNn s.nodes),.f (fTm s.tms),.f (fSg s.sgs),.f (.v (.int .i64 ver)),.f (.v (.int .i64 now)),.f (fEv out)] :: H) K) (K true (.f (.v (.int .i64 (armP ⟨s,ver,now,out⟩ nm t).1))) (pnB (armP ⟨s,ver,now,out⟩ nm t).2 :: H)):=⟨fun h =>
 f0z (y0e ⟨s,ver,now,out⟩ nm t ho.h hl.h k1.h) rfl rfl (fun _=>rfl) (fun _=>rfl) (fun _=>rfl) (fun _=>rfl) h⟩
instance {s:S12}{ver now:Int}{out:List Ev}{H:List Row}{K:Bool→D→List Row→Prop}{nm d:Bs}[ho:Kn (Ok12 s)][hl:Kn (out.length≤1000000)][k1:Kn (nm.length≤1000000)][k2:Kn (d.length≤1000000)] :
  Wa (a0k Tryz.prog (.fn 91 []) [.pt 0 0,.f (.v (.string (BB nm))),.f (fY d)] (.box 121 [.f (.v (.int .i64 s.id)),.f (.v (.int .i64 s.ver)),.f (.v (.int .i64 s.time)),.f (.v (.int .i64 s.closed)),.f (.v (.bool s.cancel)),.f (fG s.defs),.f (fNn s.nodes),.f (fTm s.tms),.f (fSg s.sgs),.f (.v (.int .i64 ver)),.f (.v (.int .i64 now)),.f (fEv out)] :: H) K) (K true (.tp [.f (.v (.bool (a0q ⟨s,ver,now,out⟩ nm d).1.1)),.f (.v (.int .i64 (a0q ⟨s,ver,now,out⟩ nm d).1.2))]) (pnB (a0q ⟨s,ver,now,out⟩ nm d).2 :: H)):=⟨fun h =>
 f0z (e0M ⟨s,ver,now,out⟩ nm d ho.h hl.h k1.h k2.h) rfl rfl (fun _=>rfl) (fun _=>rfl) (fun _=>rfl) (fun _=>rfl) h⟩
instance {s:S12}{ver now:Int}{out:List Ev}{H:List Row}{K:D→List Row→Prop}  [ho:Kn (Ok12 s)][hl:Kn (out.length≤1000000)] :
  Wa (a0P Tryz.prog (.fn 120 []) [.pt 0 0] (.box 121 [.f (.v (.int .i64 s.id)),.f (.v (.int .i64 s.ver)),.f (.v (.int .i64 s.time)),.f (.v (.int .i64 s.closed)),.f (.v (.bool s.cancel)),.f (fG s.defs),.f (fNn s.nodes),.f (fTm s.tms),.f (fSg s.sgs),.f (.v (.int .i64 ver)),.f (.v (.int .i64 now)),.f (fEv out)] :: H) K) (K (.f (.v (.int .i64 (b0b ⟨s,ver,now,out⟩).1))) (pnB (b0b ⟨s,ver,now,out⟩).2 :: H)):=⟨fun h =>
 b0o (r0t ⟨s,ver,now,out⟩ ho.h hl.h) rfl rfl (fun _=>rfl) (fun _=>rfl) (fun _=>rfl) (fun _=>rfl) h⟩
instance {s:S12}{ver now:Int}{out:List Ev}{H:List Row}{K:D→List Row→Prop}  [ho:Kn (Ok12 s)][hl:Kn (out.length≤1000000)] :
  Wa (a0P Tryz.prog (.fn 121 []) [.pt 0 0] (.box 121 [.f (.v (.int .i64 s.id)),.f (.v (.int .i64 s.ver)),.f (.v (.int .i64 s.time)),.f (.v (.int .i64 s.closed)),.f (.v (.bool s.cancel)),.f (fG s.defs),.f (fNn s.nodes),.f (fTm s.tms),.f (fSg s.sgs),.f (.v (.int .i64 ver)),.f (.v (.int .i64 now)),.f (fEv out)] :: H) K) (K (.f (.v (.int .i64 (e0Z ⟨s,ver,now,out⟩).1))) (pnB (e0Z ⟨s,ver,now,out⟩).2 :: H)):=⟨fun h =>
 b0o (j0y ⟨s,ver,now,out⟩ ho.h hl.h) rfl rfl (fun _=>rfl) (fun _=>rfl) (fun _=>rfl) (fun _=>rfl) h⟩
instance {s:S12}{ver now:Int}{out:List Ev}{H:List Row}{K:D→List Row→Prop}[ho:Kn (Ok12 s)][hl:Kn (out.length≤1000000)][k1:Kn (∃ b,PnOk b ⟨s,ver,now,out⟩)] :
  Wa (a0P Tryz.prog (.fn 119 []) [.pt 0 0] (.box 121 [.f (.v (.int .i64 s.id)),.f (.v (.int .i64 s.ver)),.f (.v (.int .i64 s.time)),.f (.v (.int .i64 s.closed)),.f (.v (.bool s.cancel)),.f (fG s.defs),.f (fNn s.nodes),.f (fTm s.tms),.f (fSg s.sgs),.f (.v (.int .i64 ver)),.f (.v (.int .i64 now)),.f (fEv out)] :: H) K) (K (.f (.v (.int .i64 (e0z ⟨s,ver,now,out⟩).1))) (pnB (e0z ⟨s,ver,now,out⟩).2 :: H)):=⟨fun h =>
 b0o (k1.h.elim fun b hb=>x0b b ⟨s,ver,now,out⟩ hb) rfl rfl (fun _=>rfl) (fun _=>rfl) (fun _=>rfl) (fun _=>rfl) h⟩
def SgN (e:Ev):Prop:=e.ty=7→∃ a r,e.name=a0o a++r
def PnS (p:Pn):Prop:=∀ e∈p.out,SgN e
theorem c0W {p:Pn}{e:Ev}(h:PnS p)(he:SgN e):PnS (a0O p e).2:=by
 have hn:SgN (a0V p e):=he
 rcases e0L p e with ⟨_,h2⟩|⟨_,_,h2,_,h3⟩|⟨_,_,h2,_,f,hf,h3,h4⟩
 ·rw [h2];exact h
 ·rw [h3]
  intro x hx
  rcases List.mem_append.1 hx with hx|hx
  ·exact h x hx
  ·obtain rfl:=List.mem_singleton.1 hx;exact hn
 ·rw [h4]
  intro x hx
  rcases List.mem_append.1 hx with hx|hx
  ·exact h x hx
  ·rcases List.mem_cons.1 hx with rfl|hx
   ·exact hn
   ·obtain rfl:=List.mem_singleton.1 hx
    intro ht
    have hk:=g0R (a0H p.s (a0V p e)).2
    have hft:x.ty=a0Z (a0H p.s (a0V p e)).2:=by rw [hf];try rfl
    omega
theorem h0J {e:Ev}(h:e.ty≠7):SgN e:=fun hh=>absurd hh h
structure PnT (b:S12)(p:Pn):Prop where
 ok:PnOk b p
 sg:PnS p
theorem u0p {b:S12}{p:Pn}{ds:List Nd}(h:PnT b p)(hd:Fit ds):PnT b (b0k p ds).2:=by
 refine ⟨a1E h.ok hd,?_⟩
 unfold b0k
 repeat' split
 all_goals first|exact h.sg|exact c0W h.sg (h0J (by simp))
theorem u0C {b:S12}{p:Pn}(h:PnT b p):PnT b (b0s p).2:=by
 refine ⟨y0q h.ok,?_⟩
 unfold b0s
 repeat' split
 all_goals first|exact h.sg|exact c0W h.sg (h0J (by simp))
theorem o0q {b:S12}{p:Pn}{i t:Int}{ok:Bool}{d:Bs}(h:PnT b p)(hd:d.length≤1000000):PnT b (b0O p i t ok d).2:=by
 refine ⟨w0h h.ok hd,?_⟩
 unfold b0O
 repeat' split
 all_goals first|exact h.sg|exact c0W h.sg (h0J (by simp))
theorem f1Y {b:S12}{p:Pn}{nm:Bs}{t:Int}(h:PnT b p)(hn:nm.length≤1000000):PnT b (armP p nm t).2:=by
 refine ⟨f1L h.ok hn,?_⟩
 unfold armP
 repeat' split
 all_goals first|exact h.sg|exact c0W h.sg (h0J (by simp))
theorem r0I {b:S12}{p:Pn}{x y:Int}{d:Bs}(h:PnT b p)(hn:(a0o x++a0o y).length≤1000000)(hd:d.length≤1000000):PnT b (a0q p (a0o x++a0o y) d).2:=by
 refine ⟨w0x h.ok hn hd,?_⟩
 unfold a0q
 repeat' split
 all_goals first|exact h.sg|exact c0W h.sg (fun _=>⟨x,a0o y,rfl⟩)
theorem b1H {b:S12}{p:Pn}(h:PnT b p):PnT b (b0b p).2:=by
 refine ⟨w0u h.ok,?_⟩
 unfold b0b
 repeat' split
 all_goals first|exact h.sg|exact c0W h.sg (h0J (by simp))
theorem e1f {b:S12}{p:Pn}(h:PnT b p):PnT b (e0Z p).2:=by
 refine ⟨c1b h.ok,?_⟩
 unfold e0Z
 repeat' split
 all_goals first|exact h.sg|exact c0W h.sg (h0J (by simp))
theorem j0l {now:Int}:∀ {k i:Nat} {p:Pn} {n:Int},PnS p→PnS (d0H now k i p n).2.1
 | 0,_,_,_,h=>h
 | k+1,i,p,n,h=>by
  rw [d0H]
  have hw:=c0W (e:=⟨0,0,0,4,i,(gt p.s.nodes i).tr,[],[],[]⟩) h (h0J (by simp))
  split
  ·exact h
  ·split
   ·exact j0l h
   ·split
    ·exact j0l h
    ·split
     ·exact hw
     ·exact j0l hw
theorem y0D {now:Int}:∀ {f:Nat} {p:Pn} {n:Int},PnS p→PnS (e0q now f p n).2
 | 0,_,_,h=>h
 | f+1,p,n,h=>by
  rw [e0q]
  split
  ·exact h
  ·split
   ·exact h
   ·have hw:=c0W (e:=⟨0,0,0,6,0,0,(gt p.s.tms (d0O now p.s.tms 0 (-1) p.s.tms).toNat).name,[],[]⟩) h (h0J (by simp))
    split
    ·exact hw
    ·exact y0D hw
theorem e1R {b:S12}{p:Pn}(h:PnT b p):PnT b (e0z p).2:=by
 refine ⟨c1V h.ok,?_⟩
 unfold e0z
 split
 ·exact j0l h.sg
 ·exact y0D (j0l h.sg)
theorem z0s {a b:Bs}:BB a++BB b=BB (a++b):=by
 apply ByteArray.ext
 rw [ByteArray.data_append]
 simp [BB]
def finA (p:Pn)(x:Rw):Nat→Nat→Pn
 | 0,_=>(b0s p).2
 | f+1,i=>if (gt p.s.nodes i).st=1 then (if 0<x.a.tmod 4 then (b0O p i (gt p.s.nodes i).tr true (fewL x.data 40)).2 else (b0O p i (gt p.s.nodes i).tr false (fewL x.data 0)).2) else finA p x f (i+1)
def e0u (p:Pn)(x:Rw)(l:List Rd):Pn :=
 if p.s.id=0 then (b0k p (c0Q l)).2
 else if pick x.what 16≤4 then (b0s p).2
 else if pick x.what 16≤8 then finA p x p.s.nodes.length 0
 else if pick x.what 16≤9 then (armP p (a0o x.a) (1+pick x.b 9)).2
 else if pick x.what 16≤12 then (a0q p (a0o x.a++a0o x.b) (fewL x.data 40)).2
 else if pick x.what 16≤14 then (e0z p).2
 else if x.b.tmod 4=0 then (b0b p).2 else if x.b.tmod 29=28 then (e0Z p).2 else p
theorem a1k {b:Bs}{n:Int}(h:0≤n)(hn:n≤1000):(fewL b n).length≤1000000:=by have:=h0Z (b:=b) (n:=n) h;omega
theorem a1Y (a b:Int):(a0o a++a0o b).length≤1000000:=by have:=a0w a;have:=a0w b;rw [List.length_append];omega
theorem d1R {b:S12}{p:Pn}{x:Rw}(h:PnT b p):∀ {f i:Nat},PnT b (finA p x f i)
 | 0,_=>u0C h
 | f+1,i=>by
  rw [finA]
  split
  ·split
   ·exact o0q h (a1k (by omega) (by omega))
   ·exact o0q h (a1k (by omega) (by omega))
  ·exact d1R h
theorem r0y {b:S12}{p:Pn}{x:Rw}{l:List Rd}(h:PnT b p):PnT b (e0u p x l):=by
 have hd:=c0G l
 unfold e0u
 repeat' split
 ·exact u0p h (hd.1.fit hd.2.2)
 ·exact u0C h
 ·exact d1R h
 ·exact f1Y h (by have:=a0w x.a;omega)
 ·exact r0I h (a1Y _ _) (a1k (by omega) (by omega))
 ·exact e1R h
 ·exact b1H h
 ·exact e1f h
 ·exact h
set_option maxRecDepth 100000 in
theorem g0y (b:S12)(p:Pn)(x:Rw)(l:List Rd)(hp:PnT b p):Con Tryz.prog 73 [.pt 0 0,rwD x,.f (fR l)] [pnB p] fun r H'=>r = .tp []∧H'=[pnB (e0u p x l)]:=by
 obtain ⟨s,ver,now,out⟩:=p
 suffices hh:∀ Q:D→List Row→Prop,(∀ p',e0u ⟨s,ver,now,out⟩ x l=p'→Q (.tp []) [pnB p'])→Con Tryz.prog 73 [.pt 0 0,rwD x,.f (fR l)] [pnB ⟨s,ver,now,out⟩] Q from hh _ fun p' h=>⟨rfl,by rw [h]⟩
 intro Q hQ
 have hE:e0u ⟨s,ver,now,out⟩ x l=e0u ⟨s,ver,now,out⟩ x l:=rfl
 conv at hE=>rhs;unfold e0u
 dsimp only at hE
 have ho:Ok12 s:=hp.ok.ok
 have hl:out.length≤200:=hp.ok.len
 haveI:Kn (Ok12 s):=⟨ho⟩
 haveI:Kn (Wk12 s):=⟨ho.wk⟩
 haveI:Kn (out.length≤1000000):=⟨by omega⟩
 refine Con.walk good q0w (by simp) ?_
 unfold j0X
 simp only [a0I,pnB,pnD,rwD]
 have hf1:=h0Z (b:=x.data) (n:=40) (by omega)
 have hf2:=h0Z (b:=x.data) (n:=0) (by omega)
 haveI:Kn ((fewL x.data 40).length≤1000000):=⟨by omega⟩
 haveI:Kn ((fewL x.data 0).length≤1000000):=⟨by omega⟩
 haveI:Kn ((a0o x.a).length≤1000000):=⟨by have:=a0w x.a;omega⟩
 haveI:Kn (∃ b,PnOk b ⟨s,ver,now,out⟩):=⟨b,hp.ok⟩
 by_cases hz:s.id=0
 ·repeat' (with_reducible first|refine Wx.h ?_|refine Wb.h fun K hK=>?_|(refine hK _ ?_;clear hK K)|(refine wT ?_ ?_;assumption)|((fail_if_success refine Wz.h ?_);simp (disch:=omega) only [↓LD,LA,a0A,seval]))
  refine a0J (d0Z l) [] (by kernel_rfl) rfl rfl ?_
  rintro _ _ ⟨rfl,rfl⟩
  have hd:=c0G l
  haveI:Kn (Fit (c0Q l)):=⟨hd.1.fit hd.2.2⟩
  simp (disch:=omega) only [↓LD,LA,a0A,seval,ren,List.getElem?_nil]
  repeat' (with_reducible first|refine Wx.h ?_|(refine hK _ ?_;clear hK K)|((fail_if_success refine Wz.h ?_);simp (disch:=omega) only [↓LD,LA,a0A,seval]))
  exact RetS.still (ds:=[]) (by kernel_rfl) (by kernel_rfl) (.tps .nil) (hQ _ (by rw [hE,if_pos hz]))
 haveI:Kn ((a0o x.a++a0o x.b).length≤1000000):=⟨by have:=a0w x.a;have:=a0w x.b;rw [List.length_append];omega⟩
 have hsz:(BB (a0o x.a)).size+(BB (a0o x.b)).size≤1000:=by have:=a0w x.a;have:=a0w x.b;rw [t0o,t0o];omega
 have hnl:=ho.wk.fit.fit.nodes
 have hla:=a0w x.a
 have hlb:=a0w x.b
 have hpk:=b0N (x:=x.b) (n:=9) (by omega)
 rw [if_neg hz] at hE
 have hpw:=b0N (x:=x.what) (n:=16) (by omega)
 repeat' (with_reducible first|refine Wx.h ?_|refine We.h fun K hK=>?_|(refine hK _ _ _ _ ?_;clear hK K;try clear hM M)|refine Wb.h fun K hK=>?_|(refine hK _ ?_;clear hK K)|(refine wF ?_ ?_;assumption)|(refine Wy.h ?_ ?_;kernel_rfl)|refine Wq.h ?_ ?_<;>intro h|((fail_if_success refine Wz.h ?_);first|simp (disch:=omega) only [↓LD,LA,a0A,seval,z0s]|(refine And.intro ?_ ?_;omega)|fail))
 all_goals first
  | exact RetS.still (ds:=[]) (by kernel_rfl) (by kernel_rfl) (.tps .nil) (hQ (b0s ⟨s,ver,now,out⟩).2 (by rw [hE,if_pos (by omega)]))
  | exact RetS.still (ds:=[]) (by kernel_rfl) (by kernel_rfl) (.tps .nil) (hQ (armP ⟨s,ver,now,out⟩ (a0o x.a) (1+pick x.b 9)).2 (by rw [hE,if_neg (by omega),if_neg (by omega),if_pos (by omega)]))
  | exact RetS.still (ds:=[]) (by kernel_rfl) (by kernel_rfl) (.tps .nil) (hQ (a0q ⟨s,ver,now,out⟩ (a0o x.a++a0o x.b) (fewL x.data 40)).2 (by rw [hE,if_neg (by omega),if_neg (by omega),if_neg (by omega),if_pos (by omega)]))
  | exact RetS.still (ds:=[]) (by kernel_rfl) (by kernel_rfl) (.tps .nil) (hQ (e0z ⟨s,ver,now,out⟩).2 (by rw [hE,if_neg (by omega),if_neg (by omega),if_neg (by omega),if_neg (by omega),if_pos (by omega)]))
  | exact RetS.still (ds:=[]) (by kernel_rfl) (by kernel_rfl) (.tps .nil) (hQ (b0b ⟨s,ver,now,out⟩).2 (by rw [hE,if_neg (by omega),if_neg (by omega),if_neg (by omega),if_neg (by omega),if_neg (by omega),if_pos (by assumption)]))
  | exact RetS.still (ds:=[]) (by kernel_rfl) (by kernel_rfl) (.tps .nil) (hQ (e0Z ⟨s,ver,now,out⟩).2 (by rw [hE,if_neg (by omega),if_neg (by omega),if_neg (by omega),if_neg (by omega),if_neg (by omega),if_neg (by assumption),if_pos (by assumption)]))
  | exact RetS.still (ds:=[]) (by kernel_rfl) (by kernel_rfl) (.tps .nil) (hQ ⟨s,ver,now,out⟩ (by rw [hE,if_neg (by omega),if_neg (by omega),if_neg (by omega),if_neg (by omega),if_neg (by omega),if_neg (by assumption),if_neg (by assumption)]))
  | skip
 all_goals
  rw [if_neg (by omega),if_pos (by omega)] at hE
  refine HS.loopG [0,4,6] (fun i:Nat=>⟨frm 124 [(0,.pt 0 0),(4,.pt 1 0),(6,D.int i)],[pnB ⟨s,ver,now,out⟩,.box 115 [D.int x.what,D.int x.a,D.int x.b,D.int x.c,D.int x.v,.f (fY x.data)]],[]⟩)
   (fun i=>i≤s.nodes.length∧e0u ⟨s,ver,now,out⟩ x l=finA ⟨s,ver,now,out⟩ x (s.nodes.length-i) i) (fun i=>s.nodes.length-i) 0 (by kernel_rfl) ⟨Nat.zero_le _,hE⟩ ?_
  clear hE
  rintro i ⟨hi,hE⟩
  by_cases hil:i<s.nodes.length
  ·rw [show s.nodes.length-i=(s.nodes.length-(i+1))+1 by omega,finA] at hE
   dsimp only at hE
   repeat' (with_reducible first|refine Wx.h ?_|refine We.h fun K hK=>?_|(refine hK _ _ _ _ ?_;clear hK K;try clear hM M)|refine Wb.h fun K hK=>?_|(refine hK _ ?_;clear hK K)|(refine wT ?_ ?_;assumption)|(refine wF ?_ ?_;assumption)|(refine Wy.h ?_ ?_;kernel_rfl)|refine Wq.h ?_ ?_<;>intro h<;>try (exfalso;omega)|((fail_if_success refine Wz.h ?_);first|simp (disch:=omega) only [↓LD,LA,a0A,seval,LSt,pnB,pnD,b0z,f0t,a0h,Nn.cs]|(refine And.intro ?_ ?_;omega)|fail))
   all_goals first
    | exact RetS.still (ds:=[]) (by kernel_rfl) (by kernel_rfl) (.tps .nil) (hQ (b0O ⟨s,ver,now,out⟩ i (gt s.nodes i).tr true (fewL x.data 40)).2 (by rw [hE,if_pos (by assumption),if_pos (by assumption)]))
    | exact RetS.still (ds:=[]) (by kernel_rfl) (by kernel_rfl) (.tps .nil) (hQ (b0O ⟨s,ver,now,out⟩ i (gt s.nodes i).tr false (fewL x.data 0)).2 (by rw [hE,if_pos (by assumption),if_neg (by assumption)]))
    | exact Next.mk (i+1) (by kernel_rfl) ⟨by omega,by rw [hE,if_neg (by assumption)]⟩ (by omega)
  ·rw [show s.nodes.length-i=0 by omega,finA] at hE
   repeat' (with_reducible first|refine Wx.h ?_|refine Wb.h fun K hK=>?_|(refine hK _ ?_;clear hK K)|refine Wq.h ?_ ?_<;>intro h<;>try (exfalso;omega)|((fail_if_success refine Wz.h ?_);simp (disch:=omega) only [↓LD,LA,a0A,seval,LSt,pnB,pnD,b0z,f0t,a0h,Nn.cs]))
   exact RetS.still (ds:=[]) (by kernel_rfl) (by kernel_rfl) (.tps .nil) (hQ _ hE)
theorem c1k {g:List Ev}{k:Nat}(hk:k<g.length):((g.flatMap Ev.cs).drop (k*9)).take 9=Ev.cs (gt g k):=h0v Ev.cs_len hk
def rEv (l:List Ev):Row:=.data 73 (l.flatMap Ev.cs)
set_option maxRecDepth 100000 in
theorem j0M (l:List Ev)(hl:l.length≤1000000)(hf:∀ e∈l,FitV e):Con Tryz.prog 28 [.sl 0 0 l.length] [rEv l] fun r H'=>r = .tp [stD (a0N s0 l).2,D.int (a0N s0 l).1]∧H'=[rEv l]:=by
 refine Con.walk good t0T (by simp) ?_
 unfold m0w
 simp only [a0I]
 repeat' (with_reducible first|refine Wx.h ?_|refine Wb.h fun K hK=>?_|(refine hK _ ?_;clear hK K)|((fail_if_success refine Wz.h ?_);simp (disch:=omega) only [↓LD,LA,a0A,seval,rEv]))
 refine HS.view (View.bcell 2 5 (.f (.s [] 0)) rfl rfl .ns) ?_
 refine HS.view (View.bcell 2 6 (.f (.s [] 0)) rfl rfl .ns) ?_
 refine HS.view (View.bcell 2 7 (.f (.s [] 0)) rfl rfl .ns) ?_
 refine HS.view (View.bcell 2 8 (.f (.s [] 0)) rfl rfl .ns) ?_
 refine HS.loopG [0,2,4,5] (fun x:Nat × S12=>⟨frm 27 [(0,.sl 0 0 l.length),(2,.pt 1 0),(4,.pt 2 0),(5,D.int x.1)],[rEv l,.box 65 [jI,jI,jI,jI,jF,jN,jN,jN,jN],stF x.2],[]⟩)
  (fun x=>x.1≤l.length∧Ok12 x.2∧a0N s0 l=a0N x.2 (l.drop x.1)) (fun x=>l.length-x.1) (0,s0) (by kernel_rfl) ⟨Nat.zero_le _,y0j,rfl⟩ ?_
 rintro ⟨i,s⟩ ⟨hi,ho,hF⟩
 dsimp only at hi ho hF
 by_cases hil:i<l.length
 ·rw [a0G hil,a0N] at hF
  have hv:=hf _ (a0K hil)
  haveI:Kn (Wk12 s):=⟨ho.wk⟩
  haveI:Kn (FitV (gt l i)):=⟨hv⟩
  repeat' (with_reducible first|refine Wx.h ?_|refine We.h fun K hK=>?_|(refine hK _ _ _ _ ?_;clear hK K;try clear hM M)|refine Wb.h fun K hK=>?_|(refine hK _ ?_;clear hK K)|(refine Wy.h ?_ ?_;kernel_rfl)|refine Wq.h ?_ ?_<;>intro h<;>try (exfalso;omega)|((fail_if_success refine Wz.h ?_);first|simp (disch:=omega) only [↓LD,LA,a0A,seval,rEv,c1k,a0L,Ev.cs,stF,List.map_cons,List.map_nil]|(refine And.intro ?_ ?_;omega)|fail))
  ·have hz:(a0H s (gt l i)).1=0:=by assumption
   rw [if_pos hz] at hF
   have ho2:=d0E ho hv.2.2.2 hz
   exact Next.mk (i+1,(a0H s (gt l i)).2) (by kernel_rfl) ⟨by dsimp only;omega,ho2,hF⟩ (by dsimp only;omega)
  ·rw [if_neg (by assumption)] at hF
   rw [hF]
   exact RetS.still (ds:=[.ag [jI,jI,jI,jI,jF,jN,jN,jN,jN],D.int (a0H s (gt l i)).1]) (by kernel_rfl) (by kernel_rfl) (.tps (.cons (.ags (.cons .f (.cons .f (.cons .f (.cons .f (.cons .f (.cons .nil (.cons .nil (.cons .nil (.cons .nil .nil)))))))))) (.cons .f .nil))) ⟨rfl,rfl⟩
 ·repeat' (with_reducible first|refine Wx.h ?_|refine Wb.h fun K hK=>?_|(refine hK _ ?_;clear hK K)|refine Wq.h ?_ ?_<;>intro h<;>try (exfalso;omega)|((fail_if_success refine Wz.h ?_);simp (disch:=omega) only [↓LD,LA,a0A,seval,rEv,stF]))
  rw [List.drop_of_length_le (by omega),a0N] at hF
  rw [hF]
  exact RetS.still (ds:=[stD s,D.int 0]) (by kernel_rfl) (by kernel_rfl) (.tps (.cons f1J (.cons .f .nil))) ⟨rfl,rfl⟩
theorem e0X (l:List Ev)(ver now:Int)(hl:l.length≤1000000)(hf:∀ e∈l,FitV e):Con Tryz.prog 72 [.sl 0 0 l.length,D.int ver,D.int now] [rEv l] fun r H' =>
  (newE l ver now≠0→r = .tp [.f (.v (.pointer none)),D.int (newE l ver now)]∧H'=[rEv l])∧(newE l ver now=0→r = .tp [.pt 1 0,D.int 0]∧H'=[rEv l,pnB ⟨(a0N s0 l).2,ver,now,[]⟩]):=by
 suffices hh:∀ Q:D→List Row→Prop,(∀ r H',((newE l ver now≠0→r = .tp [.f (.v (.pointer none)),D.int (newE l ver now)]∧H'=[rEv l])∧(newE l ver now=0→r = .tp [.pt 1 0,D.int 0]∧H'=[rEv l,pnB ⟨(a0N s0 l).2,ver,now,[]⟩]))→Q r H')→Con Tryz.prog 72 [.sl 0 0 l.length,D.int ver,D.int now] [rEv l] Q from hh _ fun _ _ h=>h
 intro Q hQ
 haveI:Kn (l.length≤1000000):=⟨hl⟩
 haveI:Kn (∀ e∈l,FitV e):=⟨hf⟩
 have hE:newE l ver now=newE l ver now:=rfl
 conv at hE=>rhs;unfold newE
 generalize newE l ver now=E at hQ hE
 generalize hF:a0N s0 l=p at hQ hE
 obtain ⟨v,s⟩:=p
 dsimp only at hE hQ
 refine Con.walk good x0c (by simp) ?_
 unfold q0L
 simp only [a0I]
 repeat' (with_reducible first|refine Wa.h ?_|refine Ws.h ?_|refine Wb.h fun K hK=>?_|(refine hK _ ?_;clear hK K)|((fail_if_success refine Wz.h ?_);simp (disch:=omega) only [↓LD,LA,a0A,seval,rEv]))
 refine a0J (j0M l hl hf) [0] (by kernel_rfl) rfl rfl ?_
 rintro _ _ ⟨rfl,rfl⟩
 simp (disch:=omega) only [↓LD,LA,a0A,seval,ren,List.getElem?_nil,rEv]
 rw [hF]
 repeat' (with_reducible first|refine Wa.h ?_|refine Ws.h ?_|refine Wb.h fun K hK=>?_|(refine hK _ ?_;clear hK K)|refine Wq.h ?_ ?_<;>intro h|refine Wu.h ?_ ?_<;>intro h<;>try simp only [h]|((fail_if_success refine Wz.h ?_);simp (disch:=omega) only [↓LD,LA,a0A,seval,rEv,stD]))
 ·have hv:E=1:=by rw [hE,if_neg (fun hh=>hh (show v=0 by assumption)),if_pos (by assumption)]
  repeat' (with_reducible first|refine Wx.h ?_|fail)
  exact end2 rfl rfl rfl rfl (by kernel_rfl) (.tps (.cons .f (.cons .f .nil))) (hQ _ _ ⟨fun _=>⟨by rw [hv];try rfl,rfl⟩,fun h=>by omega⟩)
 ·have hv:E=1:=by rw [hE,if_neg (fun hh=>hh (show v=0 by assumption)),if_neg (by rw [show (!verB ver)=false by assumption];simp),if_pos (by assumption)]
  repeat' (with_reducible first|refine Wx.h ?_|fail)
  exact end2 rfl rfl rfl rfl (by kernel_rfl) (.tps (.cons .f (.cons .f .nil))) (hQ _ _ ⟨fun _=>⟨by rw [hv];try rfl,rfl⟩,fun h=>by omega⟩)
 ·have hv:E=1:=by rw [hE,if_neg (fun hh=>hh (show v=0 by assumption)),if_neg (by rw [show (!verB ver)=false by assumption];simp),if_neg (by assumption),if_pos (by assumption)]
  repeat' (with_reducible first|refine Wx.h ?_|fail)
  exact end2 rfl rfl rfl rfl (by kernel_rfl) (.tps (.cons .f (.cons .f .nil))) (hQ _ _ ⟨fun _=>⟨by rw [hv];try rfl,rfl⟩,fun h=>by omega⟩)
 ·have hv:E=4:=by rw [hE,if_neg (fun hh=>hh (show v=0 by assumption)),if_neg (by rw [show (!verB ver)=false by assumption];simp),if_neg (by assumption),if_neg (by assumption),if_pos (by assumption)]
  repeat' (with_reducible first|refine Wx.h ?_|fail)
  exact end2 rfl rfl rfl rfl (by kernel_rfl) (.tps (.cons .f (.cons .f .nil))) (hQ _ _ ⟨fun _=>⟨by rw [hv];try rfl,rfl⟩,fun h=>by omega⟩)
 ·have hv:E=0:=by rw [hE,if_neg (fun hh=>hh (show v=0 by assumption)),if_neg (by rw [show (!verB ver)=false by assumption];simp),if_neg (by assumption),if_neg (by assumption),if_neg (by assumption)]
  refine HS.view (View.bcell 2 11 (.f (.s [] 0)) rfl rfl .ns) ?_
  repeat' (with_reducible first|refine Wx.h ?_|fail)
  exact RetS.gather (ds:=[.pt 2 0,D.int 0]) (e:=⟨.tp [.pt 1 0,D.int 0],[(0,rEv l)],[pnB ⟨s,ver,now,[]⟩]⟩) (by kernel_rfl) (by kernel_rfl) (hQ _ _ ⟨fun h=>absurd hv h,fun _=>⟨rfl,rfl⟩⟩)
 ·have hv:E=1:=by rw [hE,if_pos (show v≠0 by assumption)]
  repeat' (with_reducible first|refine Wx.h ?_|fail)
  exact end2 rfl rfl rfl rfl (by kernel_rfl) (.tps (.cons .f (.cons .f .nil))) (hQ _ _ ⟨fun _=>⟨by rw [hv];try rfl,rfl⟩,fun h=>by omega⟩)
def o0T (v:Int):Int:=v+1+ownD (v+1)
def verN:Nat→Int→Int
 | 0,v=>v
 | n+1,v=>verN n (o0T v)
def verL (was n:Int):Int:=max (verN (pick n 3).toNat was) 1
theorem o0J (v:Int):v+1≤o0T v∧o0T v≤v+7:=by
 have:=n0b (v+1)
 unfold o0T;omega
theorem s0o:∀ (n:Nat) (v:Int),v≤verN n v∧verN n v≤v+7*n
 | 0,v=>by simp [verN]
 | n+1,v=>by
  have h1:=s0o n (o0T v)
  have h2:=o0J v
  rw [verN];omega
theorem n0o (was n:Int):was≤verL was n∧1≤verL was n∧verL was n≤max was 1+21:=by
 have h1:=s0o (pick n 3).toNat was
 have h2:=b0N (x:=n) (n:=3) (by omega)
 unfold verL;omega
theorem b1C {x:Int}(h0:0≤x)(h1:¬ x.tmod 10<1)(h2:¬ 4<x.tmod 10):ownD x=0:=by
 rw [Int.tmod_eq_emod_of_nonneg h0] at h1 h2
 unfold ownD;split<;>(try split)<;>omega
theorem e0N (was n:Int)(h0:0≤was)(h1:was≤4398046511104):Con Tryz.prog 58 [D.int was,D.int n] [] fun r H'=>r=D.int (verL was n)∧H'=[]:=by
 refine Con.walk good j0s (by simp) ?_
 unfold e0f
 simp only [a0I]
 repeat' (with_reducible first|refine Wx.h ?_|refine Wb.h fun K hK=>?_|(refine hK _ ?_;clear hK K)|((fail_if_success refine Wz.h ?_);simp (disch:=omega) only [↓LD,LA,a0A,seval]))
 have pk:=b0N (x:=n) (n:=3) (by omega)
 refine HS.loopG [0,1,5,6] (fun x:Nat × Int=>⟨frm 28 [(0,D.int was),(1,D.int n),(5,D.int x.2),(6,D.int x.1)],[],[]⟩) (fun x=>(x.1:Int)≤pick n 3∧was≤x.2∧x.2≤was+11*x.1∧verN (pick n 3).toNat was=verN ((pick n 3).toNat-x.1) x.2) (fun x=>3-x.1) (0,was) (by kernel_rfl) ⟨by dsimp only;omega,by simp,by simp,rfl⟩ ?_
 rintro ⟨i,v⟩ ⟨hi,hv1,hv2,hv0⟩
 dsimp only at hi hv1 hv2 hv0
 repeat' (with_reducible first|refine Wx.h ?_|refine Wb.h fun K hK=>?_|(refine hK _ ?_;clear hK K)|refine Wq.h ?_ ?_<;>intro h|((fail_if_success refine Wz.h ?_);simp (disch:=omega) only [↓LD,LA,a0A,seval]))
 ·have hd:=n0b (v+1)
  rw [show (pick n 3).toNat-i=((pick n 3).toNat-(i+1))+1 by omega,verN] at hv0
  refine HS.loopG [0,1,5,6] (fun x:Int=>⟨frm 28 [(0,D.int was),(1,D.int n),(5,D.int x),(6,D.int i)],[],[]⟩) (fun x=>v+1≤x∧x+ownD x=o0T v) (fun x=>(ownD x).toNat) (v+1) (by kernel_rfl) ⟨by omega,rfl⟩ ?_
  rintro x ⟨hx1,hx2⟩
  have hbv:=o0J v
  have hd2:=n0b x
  have hd3:=n0b (x+1)
  have hst:=a1n (x:=x) (by omega)
  have hgd:=b1C (x:=x) (by omega)
  repeat' (with_reducible first|refine Wx.h ?_|refine Wb.h fun K hK=>?_|(refine hK _ ?_;clear hK K)|refine Wq.h ?_ ?_<;>intro h|((fail_if_success refine Wz.h ?_);simp (disch:=omega) only [↓LD,LA,a0A,seval]))
  ·have hst:=hst (.inl (by assumption))
   exact Next.mk (x+1) (by kernel_rfl) ⟨by omega,by omega⟩ (by omega)
  ·have hst:=hst (.inr (by assumption))
   exact Next.mk (x+1) (by kernel_rfl) ⟨by omega,by omega⟩ (by omega)
  ·have hgd:=hgd (by assumption) (by assumption)
   have hxb:x=o0T v:=by omega
   exact Next.mk (i+1,x) (by kernel_rfl) ⟨by dsimp only;omega,by dsimp only;omega,by dsimp only;omega,by dsimp only;rw [hv0,hxb]⟩ (by dsimp only;omega)
 ·rw [show (pick n 3).toNat-i=0 by omega,verN] at hv0
  exact end1 rfl rfl (by kernel_rfl) .f ⟨by rw [verL,hv0];try rfl,rfl⟩
instance {v n:Int}{H:List Row}{K:D→List Row→Prop}:Wa (a0P Tryz.prog (.fn 58 []) [.f (.v (.int .i64 v)),.f (.v (.int .i64 n))] H K) ((0≤v∧v≤4398046511104)∧K (.f (.v (.int .i64 (verL v n)))) H):=⟨fun h=>a0C (e0N v n h.1.1 h.1.2) rfl rfl rfl h.2⟩
instance {v n:Int}{H:List Row}{K:Bool→D→List Row→Prop}:Wa (a0k Tryz.prog (.fn 58 []) [.f (.v (.int .i64 v)),.f (.v (.int .i64 n))] H K) ((0≤v∧v≤4398046511104)∧K true (.f (.v (.int .i64 (verL v n)))) H):=⟨fun h=>a0M (e0N v n h.1.1 h.1.2) rfl rfl rfl h.2⟩
structure BrOk (l:List Ev):Prop where
 fold:(a0N s0 l).1=0
 fit:∀ e∈l,FitV e
 sig:∀ e∈l,SgN e
theorem BrOk.nil:BrOk []:=⟨rfl,fun e h=>by simp at h,fun e h=>by simp at h⟩
theorem BrOk.ok {l:List Ev}(h:BrOk l):Ok12 (a0N s0 l).2:=w0G y0j h.fit h.fold
theorem BrOk.id {l:List Ev}(h:BrOk l):(a0N s0 l).2.id=l.length:=by
 have:=o0D h.fold
 rw [this];simp [s0]
theorem BrOk.len {l:List Ev}(h:BrOk l):l.length≤200:=by
 have h1:=h.id
 have h2:=h.ok.id
 omega
theorem h0y:∀ {l:List Ev} {s:S12},(a0N s l).1=0→∀ e∈l,b0H e=true
 | [],_,_,e,he=>by simp at he
 | x :: l,s,h,e,he=>by
  rw [a0N] at h
  by_cases a:(a0H s x).1=0
  ·rw [if_pos a] at h
   rcases List.mem_cons.1 he with rfl|he
   ·exact (b0r a).1
   ·exact h0y h e he
  ·rw [if_neg a] at h;exact absurd h a
theorem BrOk.right {l:List Ev}(h:BrOk l){e:Ev}(he:e∈l):b0H e=true:=h0y h.fold e he
theorem BrOk.app {l:List Ev}{p:Pn}(h:BrOk l)(hp:PnT (a0N s0 l).2 p):BrOk (l++p.out):=by
 refine ⟨by rw [i0B h.fold,hp.ok.out],fun e he=>?_,fun e he=>?_⟩
 rotate_left
 ·rcases List.mem_append.1 he with he|he
  ·exact h.sig e he
  ·exact hp.sg e he
 rcases List.mem_append.1 he with he|he
 ·exact h.fit e he
 ·exact hp.ok.fit e he
theorem BrOk.pen {l:List Ev}(h:BrOk l)(v now:Int):PnT (a0N s0 l).2 ⟨(a0N s0 l).2,v,now,[]⟩:=⟨⟨h.ok,h.ok,rfl,fun e he=>by simp at he⟩,fun e he=>by simp at he⟩
theorem y0f {l:List Ev}{v now:Int}(h:newE l v now=0):verB v=true∧0≤now∧now≤1099511627776∧(a0N s0 l).2.ver≤v:=by
 unfold newE at h
 split at h
 ·cases h
 split at h
 ·cases h
 split at h
 ·cases h
 split at h
 ·cases h
 split at h
 ·cases h
 refine ⟨?_,by omega,by omega,by omega⟩
 cases hb:verB v with
 | true=>rfl
 | false=>simp_all
theorem h0f {v:Int}(h:verB v=true):1≤v∧v≤1099511627776:=by
 simp only [verB,inI,Bool.and_eq_true,decide_eq_true_eq] at h;exact h.1
def mvA (x:Rw):Int:=IntKind.i64.wrap (IntKind.i64.wrap (x.v.tdiv 4)*x.v.tmod 2)
def g0O (steps:List Rw)(defs:List Rd):Nat→Nat→List Ev→Int→Int→List Ev
 | 0,_,out,_,_=>out
 | f+1,i,out,v,now=>if i<steps.length∧out.length<150 then
   (if newE out (verL v (mvA (gt steps i))) (now+pick (gt steps i).c 5)=0 then
    g0O steps defs f (i+1) (out++(e0u ⟨(a0N s0 out).2,verL v (mvA (gt steps i)),now+pick (gt steps i).c 5,[]⟩ (gt steps i) defs).out) (verL v (mvA (gt steps i))) (now+pick (gt steps i).c 5)
   else out) else out
def e0B (l:List Ev)(steps:List Rw)(defs:List Rd):List Ev :=
 if l.length=0 then g0O steps defs 30 0 [] 1 0 else g0O steps defs 30 0 l (gt l (l.length-1)).ver (gt l (l.length-1)).time
theorem n0q {steps:List Rw}{defs:List Rd}:∀ {f i:Nat} {out:List Ev} {v now:Int},BrOk out→BrOk (g0O steps defs f i out v now)
 | 0,_,_,_,_,h=>h
 | f+1,i,out,v,now,h=>by
  rw [g0O]
  split
  ·split
   ·exact n0q (h.app (r0y (h.pen _ _)))
   ·exact h
  ·exact h
theorem w0Z {l:List Ev}{steps:List Rw}{defs:List Rd}(h:BrOk l):BrOk (e0B l steps defs):=by
 unfold e0B;split
 ·exact n0q BrOk.nil
 ·exact n0q h
theorem p0E {steps:List Rw}{defs:List Rd}{f i:Nat}{out:List Ev}{v now:Int}(h:f=0∨¬ (i<steps.length∧out.length<150)):g0O steps defs f i out v now=out:=by
 cases f with
 | zero=>rfl
 | succ f=>rw [g0O,if_neg (by omega)]
set_option maxRecDepth 100000 in
theorem h0B (l:List Ev)(hbr:BrOk l)(steps:List Rw)(defs:List Rd):Con Tryz.prog 37 [.f (fEv l),.f (fRw steps),.f (fR defs)] [] fun r H'=>r = .f (fEv (e0B l steps defs))∧H'=[]:=by
 suffices hh:∀ Q:D→List Row→Prop,(∀ out,e0B l steps defs=out→Q (.f (fEv out)) [])→Con Tryz.prog 37 [.f (fEv l),.f (fRw steps),.f (fR defs)] [] Q from hh _ fun out h=>⟨by rw [h],rfl⟩
 intro Q hQ
 have hE:e0B l steps defs=e0B l steps defs:=rfl
 conv at hE=>rhs;unfold e0B
 have hll:=hbr.len
 refine Con.walk good q0I (by simp) ?_
 unfold h0z
 simp only [a0I]
 have hlast:∀ k:Nat,k<l.length→1≤(gt l k).ver∧(gt l k).ver≤1099511627776∧0≤(gt l k).time∧(gt l k).time≤1099511627776:=fun k hk=>by
  have:=rightE_iff.1 (hbr.right (a0K hk))
  have hv:=h0f this.2.2.1
  exact ⟨hv.1,hv.2,this.2.2.2.1.1,this.2.2.2.1.2⟩
 have e1:((l.length:Int)-1).toNat=l.length-1:=by omega
 have hl0:=hlast (l.length-1)
 by_cases hz:l.length=0
 rotate_left
 have hl1:=hl0 (by omega)
 rw [if_neg hz] at hE
 rotate_left
 rw [if_pos hz] at hE
 obtain rfl:=List.eq_nil_of_length_eq_zero hz
 ·repeat' (with_reducible first|refine Wx.h ?_|refine Wb.h fun K hK=>?_|(refine hK _ ?_;clear hK K)|((fail_if_success refine Wz.h ?_);simp (disch:=omega) only [↓LD,LA,a0A,seval,LEv,d0f,n0x,a0L,Ev.cs,e1]))
  refine HS.loopG [1,2,7,8,9,10] (fun x:Nat × List Ev × Int × Int=>⟨frm 88 [(1,.f (fRw steps)),(2,.f (fR defs)),(7,.sl 0 0 x.2.1.length),(8,D.int x.2.2.1),(9,D.int x.2.2.2),(10,D.int x.1)],[rEv x.2.1],[]⟩)
   (fun x=>x.1≤30∧BrOk x.2.1∧(0≤x.2.2.1∧x.2.2.1≤1099511627776)∧(0≤x.2.2.2∧x.2.2.2≤1099511627776)∧e0B _ steps defs=g0O steps defs (30-x.1) x.1 x.2.1 x.2.2.1 x.2.2.2) (fun x=>30-x.1) (0,[],1,0) (by kernel_rfl) ⟨by omega,BrOk.nil,⟨by dsimp only;omega,by dsimp only;omega⟩,⟨by dsimp only;omega,by dsimp only;omega⟩,hE⟩ ?_
  clear hl0 hlast hll hbr hE
  rintro ⟨i,out,v,now⟩ ⟨hi,ho,hv,hnw,hE⟩
  dsimp only at hi ho hv hnw hE
  have hol:=ho.len
  have hpc:=b0N (x:=(gt steps i).c) (n:=5) (by omega)
  repeat' (with_reducible first|refine Wx.h ?_|refine Wb.h fun K hK=>?_|(refine hK _ ?_;clear hK K)|refine Wq.h ?_ ?_<;>intro h|((fail_if_success refine Wz.h ?_);first|simp (disch:=omega) only [↓LD,LA,a0A,seval,v0i,u0P,y0u,v0l,Rw.cs,-a0A,rEv,List.map_cons,List.map_nil]|(refine And.intro ?_ ?_;omega)|fail))
  ·rw [show 30-i=(30-(i+1))+1 by omega,g0O,if_pos ⟨by omega,by omega⟩] at hE
   have hvl:=n0o v (mvA (gt steps i))
   unfold mvA at hE hvl
   generalize verL v (IntKind.i64.wrap (IntKind.i64.wrap ((gt steps i).v.tdiv 4)*(gt steps i).v.tmod 2))=v1 at *
   refine a0J (e0X out v1 (now+pick (gt steps i).c 5) (by omega) ho.fit) [0] (by kernel_rfl) rfl rfl ?_
   rintro _ _ ⟨hq1,hq2⟩
   by_cases hn:newE out v1 (now+pick (gt steps i).c 5)=0
   ·rw [if_pos hn] at hE
    obtain ⟨rfl,rfl⟩:=hq2 hn
    obtain ⟨a1,a2,a3,a4⟩:=y0f hn
    have a5:=h0f a1
    simp (disch:=omega) only [↓LD,LA,a0A,seval,ren,List.getElem?_nil,rEv,pnB,pnD]
    repeat' (with_reducible first|refine Wx.h ?_|refine Wb.h fun K hK=>?_|(refine hK _ ?_;clear hK K)|((fail_if_success refine Wz.h ?_);simp (disch:=omega) only [↓LD,LA,a0A,seval,rEv,pnB,pnD]))
    refine a0J (g0y (a0N s0 out).2 ⟨(a0N s0 out).2,v1,now+pick (gt steps i).c 5,[]⟩ (gt steps i) defs (ho.pen _ _)) [2] (by kernel_rfl) rfl rfl ?_
    rintro _ _ ⟨rfl,rfl⟩
    have hp':=r0y (x:=gt steps i) (l:=defs) (ho.pen v1 (now+pick (gt steps i).c 5))
    generalize e0u ⟨(a0N s0 out).2,v1,now+pick (gt steps i).c 5,[]⟩ (gt steps i) defs=p' at *
    have hpl:=hp'.ok.len
    have hap:=ho.app hp'
    simp (disch:=omega) only [↓LD,LA,a0A,seval,ren,List.getElem?_nil,rEv,pnB,pnD]
    repeat' (with_reducible first|refine Wx.h ?_|refine Wb.h fun K hK=>?_|(refine hK _ ?_;clear hK K)|refine Wq.h ?_ ?_<;>intro h|((fail_if_success refine Wz.h ?_);first|simp (disch:=omega) only [↓LD,LA,a0A,seval,rEv,LEv,a0L]|(refine And.intro ?_ ?_;omega)|fail))
    ·rw [List.eq_nil_of_length_eq_zero (show p'.out.length=0 by omega),List.append_nil] at hE
     exact Next.mk (i+1,out,v1,now+pick (gt steps i).c 5) (by kernel_rfl) ⟨by dsimp only;omega,ho,⟨by dsimp only;omega,by dsimp only;omega⟩,⟨by dsimp only;omega,by dsimp only;omega⟩,hE⟩ (by dsimp only;omega)
    ·rw [←List.flatMap_append,←List.length_append]
     exact Next.mk (i+1,out++p'.out,v1,now+pick (gt steps i).c 5) (by kernel_rfl) ⟨by dsimp only;omega,hap,⟨by dsimp only;omega,by dsimp only;omega⟩,⟨by dsimp only;omega,by dsimp only;omega⟩,hE⟩ (by dsimp only;omega)
   ·rw [if_neg hn] at hE
    obtain ⟨rfl,rfl⟩:=hq1 hn
    simp (disch:=omega) only [↓LD,LA,a0A,seval,ren,List.getElem?_nil,rEv]
    repeat' (with_reducible first|refine Wx.h ?_|refine Wb.h fun K hK=>?_|(refine hK _ ?_;clear hK K)|(refine wF ?_ ?_;assumption)|((fail_if_success refine Wz.h ?_);simp (disch:=omega) only [↓LD,LA,a0A,seval,rEv]))
    exact end1 rfl rfl (by kernel_rfl) (.sl (T:=73) (xs:=out.flatMap Ev.cs) rfl (fun e=>by rw [List.eq_nil_of_length_eq_zero e];try rfl)) (hQ out (hE))
  all_goals exact end1 rfl rfl (by kernel_rfl) (.sl (T:=73) (xs:=out.flatMap Ev.cs) rfl (fun e=>by rw [List.eq_nil_of_length_eq_zero e];try rfl)) (hQ out (by rw [hE,p0E (by omega)]))
 ·repeat' (with_reducible first|refine Wx.h ?_|refine Wb.h fun K hK=>?_|(refine hK _ ?_;clear hK K)|(refine wF ?_ ?_;assumption)|refine Wq.h ?_ ?_<;>intro h<;>try (exfalso;omega)|((fail_if_success refine Wz.h ?_);first|simp (disch:=omega) only [↓LD,LA,a0A,seval,LEv,d0f,n0x,a0L,Ev.cs,e1]|(refine And.intro ?_ ?_;omega)|fail))
  refine HS.loopG [1,2,7,8,9,10] (fun x:Nat × List Ev × Int × Int=>⟨frm 88 [(1,.f (fRw steps)),(2,.f (fR defs)),(7,.sl 0 0 x.2.1.length),(8,D.int x.2.2.1),(9,D.int x.2.2.2),(10,D.int x.1)],[rEv x.2.1],[]⟩)
   (fun x=>x.1≤30∧BrOk x.2.1∧(0≤x.2.2.1∧x.2.2.1≤1099511627776)∧(0≤x.2.2.2∧x.2.2.2≤1099511627776)∧e0B _ steps defs=g0O steps defs (30-x.1) x.1 x.2.1 x.2.2.1 x.2.2.2) (fun x=>30-x.1) (0,l,(gt l (l.length-1)).ver,(gt l (l.length-1)).time) (by kernel_rfl) ⟨by omega,hbr,⟨by dsimp only;omega,by dsimp only;omega⟩,⟨by dsimp only;omega,by dsimp only;omega⟩,hE⟩ ?_
  clear hl0 hlast hll hbr hE
  rintro ⟨i,out,v,now⟩ ⟨hi,ho,hv,hnw,hE⟩
  dsimp only at hi ho hv hnw hE
  have hol:=ho.len
  have hpc:=b0N (x:=(gt steps i).c) (n:=5) (by omega)
  repeat' (with_reducible first|refine Wx.h ?_|refine Wb.h fun K hK=>?_|(refine hK _ ?_;clear hK K)|refine Wq.h ?_ ?_<;>intro h|((fail_if_success refine Wz.h ?_);first|simp (disch:=omega) only [↓LD,LA,a0A,seval,v0i,u0P,y0u,v0l,Rw.cs,-a0A,rEv,List.map_cons,List.map_nil]|(refine And.intro ?_ ?_;omega)|fail))
  ·rw [show 30-i=(30-(i+1))+1 by omega,g0O,if_pos ⟨by omega,by omega⟩] at hE
   have hvl:=n0o v (mvA (gt steps i))
   unfold mvA at hE hvl
   generalize verL v (IntKind.i64.wrap (IntKind.i64.wrap ((gt steps i).v.tdiv 4)*(gt steps i).v.tmod 2))=v1 at *
   refine a0J (e0X out v1 (now+pick (gt steps i).c 5) (by omega) ho.fit) [0] (by kernel_rfl) rfl rfl ?_
   rintro _ _ ⟨hq1,hq2⟩
   by_cases hn:newE out v1 (now+pick (gt steps i).c 5)=0
   ·rw [if_pos hn] at hE
    obtain ⟨rfl,rfl⟩:=hq2 hn
    obtain ⟨a1,a2,a3,a4⟩:=y0f hn
    have a5:=h0f a1
    simp (disch:=omega) only [↓LD,LA,a0A,seval,ren,List.getElem?_nil,rEv,pnB,pnD]
    repeat' (with_reducible first|refine Wx.h ?_|refine Wb.h fun K hK=>?_|(refine hK _ ?_;clear hK K)|((fail_if_success refine Wz.h ?_);simp (disch:=omega) only [↓LD,LA,a0A,seval,rEv,pnB,pnD]))
    refine a0J (g0y (a0N s0 out).2 ⟨(a0N s0 out).2,v1,now+pick (gt steps i).c 5,[]⟩ (gt steps i) defs (ho.pen _ _)) [2] (by kernel_rfl) rfl rfl ?_
    rintro _ _ ⟨rfl,rfl⟩
    have hp':=r0y (x:=gt steps i) (l:=defs) (ho.pen v1 (now+pick (gt steps i).c 5))
    generalize e0u ⟨(a0N s0 out).2,v1,now+pick (gt steps i).c 5,[]⟩ (gt steps i) defs=p' at *
    have hpl:=hp'.ok.len
    have hap:=ho.app hp'
    simp (disch:=omega) only [↓LD,LA,a0A,seval,ren,List.getElem?_nil,rEv,pnB,pnD]
    repeat' (with_reducible first|refine Wx.h ?_|refine Wb.h fun K hK=>?_|(refine hK _ ?_;clear hK K)|refine Wq.h ?_ ?_<;>intro h|((fail_if_success refine Wz.h ?_);first|simp (disch:=omega) only [↓LD,LA,a0A,seval,rEv,LEv,a0L]|(refine And.intro ?_ ?_;omega)|fail))
    ·rw [List.eq_nil_of_length_eq_zero (show p'.out.length=0 by omega),List.append_nil] at hE
     exact Next.mk (i+1,out,v1,now+pick (gt steps i).c 5) (by kernel_rfl) ⟨by dsimp only;omega,ho,⟨by dsimp only;omega,by dsimp only;omega⟩,⟨by dsimp only;omega,by dsimp only;omega⟩,hE⟩ (by dsimp only;omega)
    ·rw [←List.flatMap_append,←List.length_append]
     exact Next.mk (i+1,out++p'.out,v1,now+pick (gt steps i).c 5) (by kernel_rfl) ⟨by dsimp only;omega,hap,⟨by dsimp only;omega,by dsimp only;omega⟩,⟨by dsimp only;omega,by dsimp only;omega⟩,hE⟩ (by dsimp only;omega)
   ·rw [if_neg hn] at hE
    obtain ⟨rfl,rfl⟩:=hq1 hn
    simp (disch:=omega) only [↓LD,LA,a0A,seval,ren,List.getElem?_nil,rEv]
    repeat' (with_reducible first|refine Wx.h ?_|refine Wb.h fun K hK=>?_|(refine hK _ ?_;clear hK K)|(refine wF ?_ ?_;assumption)|((fail_if_success refine Wz.h ?_);simp (disch:=omega) only [↓LD,LA,a0A,seval,rEv]))
    exact end1 rfl rfl (by kernel_rfl) (.sl (T:=73) (xs:=out.flatMap Ev.cs) rfl (fun e=>by rw [List.eq_nil_of_length_eq_zero e];try rfl)) (hQ out (hE))
  all_goals exact end1 rfl rfl (by kernel_rfl) (.sl (T:=73) (xs:=out.flatMap Ev.cs) rfl (fun e=>by rw [List.eq_nil_of_length_eq_zero e];try rfl)) (hQ out (by rw [hE,p0E (by omega)]))
theorem k0S (steps:List Rw)(defs:List Rd):Con Tryz.prog 9 [.f (fRw steps),.f (fR defs)] [] fun r H'=>r = .f (fEv (e0B [] steps defs))∧H'=[]:=by
 refine Con.walk good k0X (by simp) ?_
 unfold f0E
 simp only [a0I]
 repeat' (with_reducible first|refine Wx.h ?_|refine Wb.h fun K hK=>?_|(refine hK _ ?_;clear hK K)|((fail_if_success refine Wz.h ?_);simp (disch:=omega) only [↓LD,LA,a0A,seval]))
 refine c0c (args0:=[.f (fEv []),.f (fRw steps),.f (fR defs)]) ?_ (.cons (.f .ns) (.cons .refl (.cons .refl .nil)))
 refine a0J (h0B [] BrOk.nil steps defs) [] (by kernel_rfl) rfl rfl ?_
 rintro _ _ ⟨rfl,rfl⟩
 simp (disch:=omega) only [↓LD,LA,a0A,seval,ren,List.getElem?_nil]
 repeat' (with_reducible first|refine Wx.h ?_|(refine hK _ ?_;clear hK K)|((fail_if_success refine Wz.h ?_);simp (disch:=omega) only [↓LD,LA,a0A,seval]))
 exact end1 rfl rfl (by kernel_rfl) .f ⟨rfl,rfl⟩
theorem l0f:∀ {b:List Ev} {s:S12} {i:Nat},(a0N s b).1=0→(a0N s (b.take i)).1=0
 | [],s,i,h=>by simpa using h
 | e :: b,s,0,h=>rfl
 | e :: b,s,i+1,h=>by
  rw [List.take_succ_cons,a0N]
  rw [a0N] at h
  by_cases a:(a0H s e).1=0
  ·rw [if_pos a] at h ⊢;exact l0f h
  ·rw [if_neg a] at h;exact absurd h a
noncomputable def eqB {α:Type}(a b:α):Bool:=@decide (a=b) (Classical.propDecidable _)
theorem f0p {α:Type}{a b:α}(h:a=b):eqB a b=true:=by simp [eqB,h]
theorem d0v {α:Type}{a b:α}(h:¬ a=b):eqB a b=false:=by simp [eqB,h]
theorem f0D {α:Type}{a b:List α}(h:¬ (a.length:Int)=b.length):eqB a b=false:=d0v fun e=>h (by rw [e])
theorem e0r {α:Type}{a b:List α}{i:Nat}(hl:(a.length:Int)=b.length)(h:a.take i=b.take i)(hi:¬ (i:Int)<a.length):eqB a b=true:=f0p (by
 rwa [List.take_of_length_le (by omega),List.take_of_length_le (by omega)] at h)
theorem c0f {α:Type}[Inhabited α]{a b:List α}{i:Nat}(hl:(a.length:Int)=b.length)(hi:i<a.length)(h:a.take i=b.take i)(e:gt a i=gt b i):a.take (i+1)=b.take (i+1):=by
 rw [List.take_succ_eq_append_getElem hi,List.take_succ_eq_append_getElem (by omega),h,←b0P hi,←b0P (by omega),e]
theorem i0q {α:Type}[Inhabited α]{a b:List α}{i:Nat}(e:¬ gt a i=gt b i):eqB a b=false:=d0v fun h=>e (by rw [h])
theorem d0a {α:Type}{a:α}:eqB a a=true:=f0p rfl
theorem n0s {α:Type}{a b:α}(h:eqB a b=true):a=b:=by simpa [eqB] using h
def o0d:SCode :=
  (jq ([.a 2 (.box 73 (.t 0)),.a 3 (.box 73 (.t 1)),.a 4 (.mv kF)]) (jq ((ap [jo 5 0 2,jl 6 5,jo 7 0 3,jl 8 7,jB 9 .eql 6 8] (ap [jm 10 9,gO 11 1
 2 10 true] (ap [gL 12 11 10 true,gO 13 1 3 10 true,gL 14 13 10 true,jG 15 (.bin .eql (.t 12) (.t 14)) 10 true] (ap [.a 16 (.pick (.t 10) (.t 15)
 kF),jm 17 16,gO 18 2 2 17 true] (ap [gL 19 18 17 true,gO 20 2 3 17 true,gL 21 20 17 true,jG 22 (.bin .eql (.t 19) (.t 21)) 17 true] (ap [.a 23
 (.pick (.t 17) (.t 22) kF),jm 24 23,gO 25 3 2 24 true] (ap [gL 26 25 24 true,gO 27 3 3 24 true,gL 28 27 24 true,jG 29 (.bin .eql (.t 26) (.t 28))
 24 true] (ap [.a 30 (.pick (.t 24) (.t 29) kF),jm 31 30,gO 32 4 2 31 true] (ap [gL 33 32 31 true,gO 34 4 3 31 true,gL 35 34 31 true,jG 36 (.bin
 .eql (.t 33) (.t 35)) 31 true] (ap [.a 37 (.pick (.t 31) (.t 36) kF),jm 38 37,gO 39 5 2 38 true] (ap [gL 40 39 38 true,gO 41 5 3 38 true,gL 42 41
 38 true,jG 43 (.bin .eql (.t 40) (.t 42)) 38 true] (ap [.a 44 (.pick (.t 38) (.t 43) kF),jm 45 44,gO 46 6 2 45 true] (ap [gL 47 46 45 true,gO 48 6
 3 45 true,gL 49 48 45 true,jG 50 (.bin .eql (.t 47) (.t 49)) 45 true] (ap [.a 51 (.pick (.t 45) (.t 50) kF),jm 52 51,gO 53 7 2 52 true] (ap [gL 54
 53 52 true,jG 55 (.b2s (.t 54)) 52 true,gO 56 7 3 52 true,gL 57 56 52 true,jG 58 (.b2s (.t 57)) 52 true,jG 59 (.bin .eql (.t 55) (.t 58)) 52 true]
 (ap [.a 60 (.pick (.t 52) (.t 59) kF),jm 61 60,gO 62 8 2 61 true] (ap [gL 63 62 61 true,gO 64 8 3 61 true,gL 65 64 61 true,jG 66 (.call (kC 82)
 [(.t 63),(.t 65)]) 61 true] [.a 67 (.pick (.t 61) (.t 66) kF),jm 4 67])))))))))))))))))) .ret))
theorem w0i:Fn Tryz.prog 50 68 [.t 4] o0d:=.of Tryz.func50 (by kernel_rfl)
def g0f:SCode :=
  (jq ([.a 4 (.mv kF)]) (.seq (jq ([jm 6 0,je 7 6,jm 8 1,je 9 8,jB 10 .neq 7 9]) (jc 10 (jq ([.a 4 (.mv kF)]) .ret) .skip)) (.seq (jq ([jk 5 0])
 (.block 0 (.loop (.seq (jq ([jm 11 5,jm 12 0,je 13 12,jB 14 .lss 11 13]) (jc 14 .skip (.exit 0))) (.seq (.block 1 (.seq (.drw [jm 17 0,jm 18 5,jx
 19 9 17 18,jL 20 9 19,jm 21 1,jm 22 5,jx 23 9 21 22,jL 24 9 23,.a 25 (.call (kC 50) [(.t 20),(.t 24)]),.a 26 (.unot (.t 25))] [0,0,3,7,0,
 0,48,112,255,511]) (jc 26 (jq ([.a 4 (.mv kF)]) .ret) .skip))) (.ops [jm 15 5,jb 16 .add 15 1,jm 5 16])))))) (jq ([.a 4 (.mv kT)]) .ret))))
theorem n0m:Fn Tryz.prog 17 27 [.t 4] g0f:=.of Tryz.func17 (by kernel_rfl)
def w0C:SCode :=
  (jq ([.a 2 (.box 50 (.t 0)),.a 3 (.box 38 (.t 1)),.a 4 (.alloc 50 [jN]),.a 5 (.mv kF),jk 6 0]) (.seq (jq ((ap [jo 19 3 3,jl 20 19,je 21 20,jb 22
 .eql 21 0] (ap [jm 23 22,gO 24 2 3 23 false] (ap [gL 25 24 23 false,jG 26 (.call (kC 83) [(.t 25)]) 23 false] [jG 27 (.unot (.t 26)) 23 false,.a 28
 (.pick (.t 23) kT (.t 27))])))) (jc 28 (jq ([.a 29 (.bld [jN] []),.n (.store 1 (.t 4) (.t 29)),.a 5 (.mv kF),jk 6 1]) .ret) .skip)) (jq ((ap [jL 31
 1 2,jo 32 2 3,jl 33 32,.a 34 (.call (kC 84) [(.t 31),(.t 33)])] [jm 30 34,jE 35 0 30,jE 36 1 30,jm 7 35,jm 8 36])) (.seq (jq ([jm 37 8,.a 38
 (.unot (.t 37))]) (jc 38 (jq ([.a 39 (.bld [jN] []),.n (.store 1 (.t 4) (.t 39)),.a 5 (.mv kF),jk 6 4]) .ret) .skip)) (.seq (.drw [.a 40 (.bsl 73 9
 0 [] []),jm 41 7,.a 42 (.app 73 9 112 (.t 40) (.t 41)),jo 43 3 3,jl 44 43,.a 45 (.app 73 9 112 (.t 42) (.t 44)),jm 9 45] [0,0,3,0,8,31,63])
 (.seq (jq ((ap [jm 47 9,.a 48 (.call (kC 28) [(.t 47)])] [jm 46 48,jE 49 0 46,jE 50 1 46,.a 10 (.alloc 65 [jI,jI,jI,jI,jF,jN,jN,jN,jN]),.n
 (.store 9 (.t 10) (.t 49)),jm 11 50])) (jq ([jm 51 11,jb 52 .neq 51 0]) (jc 52 (jq ([.a 53 (.bld [jN] []),.n (.store 1 (.t 4) (.t 53)),.a 5 (.mv
 kF),jk 6 1]) .ret) .skip))) (.seq (jq ([jk 12 0]) (.block 0 (.loop (.seq (jq ([jm 54 12,jo 55 0 2,jl 56 55,je 57 56,jB 58 .lss 54 57]) (jc 58
 .skip (.exit 0))) (.seq (.block 1 (jq ((ap [jm 61 9,jo 62 0 2,jl 63 62,jm 64 12,jx 65 1 63 64,jl 66 65,.a 67 (.call (kC 85) [(.t 61),(.t 66)])]
 [jm 13 67])) (.seq (.drw [jm 68 9,jm 69 13,.a 70 (.sub 9 73 (.t 68) none (some (.t 69)) none),jo 71 0 2,jl 72 71,jm 73 12,jx 74 1 72 73,jl 75
 74,jm 76 13,.a 77 (.sub 9 73 (.t 75) none (some (.t 76)) none),.a 78 (.call (kC 17) [(.t 70),(.t 77)]),.a 79 (.unot (.t 78))] [0,0,3,0,8,0,
 56,120,0,504,1023,2047]) (jc 79 (jq ([.a 80 (.bld [jN] []),.n (.store 1 (.t 4) (.t 80)),.a 5 (.mv kF),jk 6 1]) .ret) .skip)))) (.ops [jm 59 12,
 jb 60 .add 59 1,jm 12 60])))))) (jq ([.a 14 (.mv kN)]) (.seq (jq ([jk 15 0]) (.block 2 (.loop (.seq (jq ([jm 81 15,jo 82 0 2,jl 83 82,je 84 83,jB
 85 .lss 81 84]) (jc 85 .skip (.exit 2))) (.seq (.block 3 (.seq (jq ([jm 88 9,jo 89 0 2,jl 90 89,jm 91 15,jx 92 1 90 91,jl 93 92,.a 94 (.call (kC
 86) [(.t 88),(.t 93)])]) (jc 94 (jq ([jL 95 1 2,.n (.store 1 (.t 4) (.t 95)),.a 5 (.mv kF),jk 6 0]) .ret) .skip)) (jq ((ap [jo 96 0 2,jl 97 96,jm
 98 15,jx 99 1 97 98,jl 100 99,jm 101 9,.a 102 (.call (kC 86) [(.t 100),(.t 101)])] [.a 103 (.unot (.t 102))])) (jc 103 (.ops (ap [jm 104 14,jo
 105 0 2,jl 106 105,jm 107 15,jx 108 1 106 107,jl 109 108,.a 110 (.bsl 25 1 1 [jN] [(0,(.t 109))]),.a 111 (.app 25 1 24 (.t 104) (.t 110))] [jm
 14 111])) .skip)))) (.ops [jm 86 15,jb 87 .add 86 1,jm 15 87])))))) (.seq (jq ([jk 16 0]) (.block 4 (.loop (.seq (jq ([jm 112 16,jm 113 14,je 114
 113,jB 115 .lss 112 114]) (jc 115 .skip (.exit 4))) (.seq (.block 5 (.seq (.drw [jm 118 14,jm 119 16,jx 120 1 118 119,jl 121 120,jm 122 14,jm 123
 16,jx 124 1 122 123,jl 125 124,je 126 125,jb 127 .sub 126 1,jx 128 9 121 127,jo 129 1 128,jl 130 129,jm 131 9,jm 132 9,je 133 132,jb 134
 .sub 133 1,jx 135 9 131 134,jo 136 1 135,jl 137 136,jB 138 .eql 130 137] [0,0,3,7,0,0,48,112,240,496,1023,2047,4095,0,0,16384,
 49152,122880,253952,516096,1048575]) (jc 138 (jq ([.a 139 (.bld [jN] []),.n (.store 1 (.t 4) (.t 139)),.a 5 (.mv kF),jk 6 1]) .ret) .skip)))
 (.ops [jm 116 16,jb 117 .add 116 1,jm 16 117])))))) (.seq (jq ([jm 140 14,je 141 140,jb 142 .geq 141 8]) (jc 142 (jq ([.a 143 (.bld [jN] []),.n
 (.store 1 (.t 4) (.t 143)),.a 5 (.mv kF),jk 6 2]) .ret) .skip)) (jq ([jk 17 0]) (.seq (.block 6 (.loop (.seq (jq ((ap [jm 144 17,jm 145 14,je 146
 145,jB 147 .lss 144 146] (ap [jm 148 147,gM 149 14 148 true] (ap [gM 150 17 148 true,jG 151 (.idx 1 (.t 149) (.t 150)) 148 true,gL 152 151 148
 true,jG 153 (.call (kC 39) [(.t 152)]) 148 true] (ap [gM 154 9 148 true,jG 155 (.call (kC 39) [(.t 154)]) 148 true] (ap [jG 156 (.call (kC 87) [(.t
 153),(.t 155)]) 148 true] (ap [jG 157 (.bin .gtr (.t 156) (kI 0)) 148 true] [.a 158 (.pick (.t 148) (.t 157) kF)]))))))) (jc 158 .skip (.exit 6)))
 (.block 7 (.ops [jm 159 17,jb 160 .add 159 1,jm 17 160]))))) (jq ((ap [.a 161 (.bsl 25 1 0 [] []),jm 162 14,jm 163 17,.a 164 (.sub 1 25 (.t 162)
 none (some (.t 163)) none),.a 165 (.app 25 1 24 (.t 161) (.t 164))] [jm 18 165])) (jq ((ap [jm 166 18,jm 167 9,.a 168 (.bsl 25 1 1 [jN] [(0,(.t
 167))]),.a 169 (.app 25 1 24 (.t 166) (.t 168))] [jm 18 169])) (jq ((ap [jm 170 18,jm 171 14,jm 172 17,.a 173 (.sub 1 25 (.t 171) (some (.t 172))
 none none),.a 174 (.app 25 1 24 (.t 170) (.t 173))] [.a 175 (.bld [jN] [(0,1,(.t 174))]),.n (.store 1 (.t 4) (.t 175)),.a 5 (.mv kT),jk 6 0]))
 .ret))))))))))))))))
theorem a1W:Fn Tryz.prog 52 176 [.cA 1 4,.t 5,.t 6] w0C:=.of Tryz.func52 (by kernel_rfl)
def q0y:SCode :=
  (jq ([.a 2 (.box 50 (.t 0)),.a 4 (.mv kN),.a 5 (.mv kF)]) (.seq (jq ([jm 8 1,je 9 8,jb 10 .eql 9 0]) (jc 10 (jq ([.a 4 (.mv kN),.a 5 (.mv kT)])
 .ret) .skip)) (jq ((ap [jm 11 1,.a 12 (.call (kC 130) [(.t 11)])] [.a 13 (.fld1 0 (.t 12)),jm 6 13])) (.seq (jq ([jk 7 0]) (.block 0 (.loop (.seq (jq
 ([jm 14 7,jo 15 0 2,jl 16 15,je 17 16,jB 18 .lss 14 17]) (jc 18 .skip (.exit 0))) (.seq (.block 1 (jq ((ap [jm 21 6,jo 22 0 2,jl 23 22,jm 24 7,
 jx 25 1 23 24,jl 26 25,je 27 26,jB 28 .leq 21 27] (ap [jm 29 28,gO 30 0 2 29 true] (ap [gL 31 30 29 true,gM 32 7 29 true,jG 33 (.idx 1 (.t 31)
 (.t 32)) 29 true,gL 34 33 29 true,gM 35 6 29 true,jG 36 (.sub 9 73 (.t 34) none (some (.t 35)) none) 29 true,jG 37 (.call (kC 39) [(.t 36)]) 29
 true] (ap [gM 38 1 29 true,jG 39 (.call (kC 131) [(.t 37),(.t 38)]) 29 true] [.a 40 (.pick (.t 29) (.t 39) kF)]))))) (jc 40 (jq ([jo 41 0 2,jl 42
 41,jm 43 7,jx 44 1 42 43,jl 45 44,jm 46 6,.a 47 (.sub 9 73 (.t 45) none (some (.t 46)) none),jm 4 47,.a 5 (.mv kT)]) .ret) .skip))) (.ops [jm 19
 7,jb 20 .add 19 1,jm 7 20])))))) (jq ([.a 4 (.mv kN),.a 5 (.mv kF)]) .ret)))))
theorem x0A:Fn Tryz.prog 84 48 [.t 4,.t 5] q0y:=.of Tryz.func84 (by kernel_rfl)
def m0Y:SCode :=
  (jq ([jk 4 0]) (jq ([jk 5 0]) (.seq (.block 0 (.loop (.seq (.seq (.drw [jm 6 5,jm 7 0,je 8 7,jB 9 .lss 6 8,jm 10 9,gM 11 5 10 true,gM 12 1 10
 true,jG 13 (.slen (.t 12)) 10 true,jG 14 (.bin .lss (.t 11) (.t 13)) 10 true,.a 15 (.pick (.t 10) (.t 14) kF),jm 16 15,gM 17 0 16 true,gM 18 5 16
 true,jG 19 (.idx 9 (.t 17) (.t 18)) 16 true,gO 20 0 19 16 true,gL 21 20 16 true,gM 22 1 16 true,gM 23 5 16 true,jG 24 (.idx 9 (.t 22) (.t 23)) 16
 true,gO 25 0 24 16 true,gL 26 25 16 true,jG 27 (.bin .eql (.t 21) (.t 26)) 16 true,.a 28 (.pick (.t 16) (.t 27) kF),jm 29 28,gM 30 0 29 true,gM
 31 5 29 true,jG 32 (.idx 9 (.t 30) (.t 31)) 29 true,gO 33 1 32 29 true,gL 34 33 29 true,gM 35 1 29 true,gM 36 5 29 true,jG 37 (.idx 9 (.t 35) (.t
 36)) 29 true,gO 38 1 37 29 true,gL 39 38 29 true,jG 40 (.bin .eql (.t 34) (.t 39)) 29 true,.a 41 (.pick (.t 29) (.t 40) kF)] [0,0,2,7,15,31,
 31,95,255,511,1023,2047,2047,8191,16383,32767,2047,2047,198655,460799,985087,2097151,4194303,8388607,16777215,16777215,67108863,
 134217727,268435455,16777215,16777215,1627389951,3774873599,8069840895,17179869183,34359738367]) (jc 41 .skip (.exit 0))) (.block 1 (.ops [jm
 42 5,jb 43 .add 42 1,jm 5 43]))))) (jq ([jm 44 5,jm 4 44]) .ret))))
theorem s0O:Fn Tryz.prog 85 45 [.t 4] m0Y:=.of Tryz.func85 (by kernel_rfl)
def h0l:SCode :=
  (jq ([.a 4 (.mv kF)]) (jq ((ap [jm 5 0,je 6 5,jm 7 1,je 8 7,jB 9 .leq 6 8] (ap [jm 10 9,gM 11 0 10 true] (ap [gM 12 1 10 true,gM 13 0 10 true,jG
 14 (.slen (.t 13)) 10 true,jG 15 (.sub 9 73 (.t 12) none (some (.t 14)) none) 10 true,jG 16 (.call (kC 17) [(.t 11),(.t 15)]) 10 true] [.a 17 (.pick
 (.t 10) (.t 16) kF),jm 4 17])))) .ret))
theorem p0R:Fn Tryz.prog 86 18 [.t 4] h0l:=.of Tryz.func86 (by kernel_rfl)
def z0X:SCode :=
  (jq ([.a 2 (.mv kN)]) (jq ([.a 3 (.mv kN)]) (.seq (jq ([jk 4 0]) (.block 0 (.loop (.seq (jq ([jm 5 4,jm 6 0,je 7 6,jB 8 .lss 5 7]) (jc 8 .skip
 (.exit 0))) (.seq (.block 1 (.ops (ap [jm 11 3,jm 12 0,jm 13 4,jx 14 9 12 13,jo 15 1 14,jl 16 15,.a 17 (.bsl 3 1 1 [jI] [(0,(.t 16))]),.a 18
 (.app 3 1 8 (.t 11) (.t 17))] [jm 3 18]))) (.ops [jm 9 4,jb 10 .add 9 1,jm 4 10])))))) (.seq (jq ([jm 19 0,je 20 19,jb 21 .eql 20 0]) (jc 21 (jq
 ([.a 2 (.mv kN)]) .ret) .skip)) (jq ((ap [jm 22 3,jm 23 0,.a 24 (.idx 9 (.t 23) (kI 0)),jo 25 0 24,jl 26 25,.a 27 (.call (kC 74) [(.t 22),(.t
 26)])] [jm 2 27])) .ret)))))
theorem c1l:Fn Tryz.prog 39 28 [.t 2] z0X:=.of Tryz.func39 (by kernel_rfl)
def m0x:SCode :=
  (jq ([.a 4 (.mv kN)]) (jq ([.a 5 (.mv kN)]) (.seq (jq ([jk 6 0]) (.block 0 (.loop (.seq (jq ([jm 8 6,jm 9 0,je 10 9,jB 11 .lss 8 10]) (jc 11 .skip
 (.exit 0))) (.seq (.block 1 (jq ([jm 14 5,je 15 14,jm 7 15]) (.seq (.drw [jm 16 7,jb 17 .gtr 16 0,jm 18 17,gM 19 5 18 true,gM 20 7 18 true,jG 21
 (.bin .sub (.t 20) (kI 1)) 18 true,jG 22 (.idx 2 (.t 19) (.t 21)) 18 true,gO 23 1 22 18 true,gL 24 23 18 true,gM 25 0 18 true,gM 26 6 18 true,jG
 27 (.idx 1 (.t 25) (.t 26)) 18 true,gL 28 27 18 true,jG 29 (.bin .eql (.t 24) (.t 28)) 18 true,.a 30 (.pick (.t 18) (.t 29) kF)] [0,1,3,7,7,23,
 63,127,255,7,7,1543,3591,8191,16383]) (jc 30 (.ops [jm 31 5,jm 32 7,jb 33 .sub 32 1,jm 34 1,jm 35 6,jB 36 .add 34 35,jx 37 2 31 33,jo 38
 0 37,.n (.store 1 (.t 38) (.t 36))]) (.ops (ap [jm 39 5,jm 40 1,jm 41 6,jB 42 .add 40 41,jm 43 0,jm 44 6,jx 45 1 43 44,jl 46 45,.a 47 (.bld
 [jI,jI] [(0,1,(.t 42)),(1,1,(.t 46))]),.a 48 (.bsl 57 2 1 [jI,jI] [(0,(.t 47))]),.a 49 (.app 57 2 16 (.t 39) (.t 48))] [jm 5 49])))))) (.ops
 [jm 12 6,jb 13 .add 12 1,jm 6 13])))))) (jq ([jm 50 5,jm 4 50]) .ret))))
theorem t0M:Fn Tryz.prog 74 51 [.t 4] m0x:=.of Tryz.func74 (by kernel_rfl)
def p0w:SCode :=
  (jq ([.a 2 (.alloc 57 [jI,jI])]) (.seq (jq ([jm 3 0,je 4 3,jb 5 .eql 4 0]) (jc 5 (jq ([.a 6 (.bld [jI,jI] []),.n (.store 2 (.t 2) (.t 6))]) .ret)
 .skip)) (jq ([jm 7 0,jm 8 0,je 9 8,jb 10 .sub 9 1,jx 11 2 7 10,jL 12 2 11,.n (.store 2 (.t 2) (.t 12))]) .ret)))
theorem w0g:Fn Tryz.prog 130 13 [.cA 2 2] p0w:=.of Tryz.func130 (by kernel_rfl)
def g0c:SCode :=
  (jq ([jk 4 0]) (jq ((ap [jm 7 0,.a 8 (.call (kC 130) [(.t 7)])] [.a 5 (.alloc 57 [jI,jI]),.n (.store 2 (.t 5) (.t 8))])) (jq ((ap [jm 9 1,.a 10
 (.call (kC 130) [(.t 9)])] [.a 6 (.alloc 57 [jI,jI]),.n (.store 2 (.t 6) (.t 10))])) (.seq (.block 0 (jq ((ap [jo 12 1 5,jl 13 12,jo 14 1 6,jl 15
 14,jB 16 .neq 13 15] (ap [jm 17 16,gO 18 1 5 17 true] (ap [gL 19 18 17 true,gO 20 1 6 17 true,gL 21 20 17 true,jG 22 (.bin .lss (.t 19) (.t 21))
 17 true] [.a 23 (.pick (.t 17) (.t 22) kF),jm 11 23])))) (jc 11 (jq ([.a 4 (.mv (kI (-1)))]) .ret) (jq ((ap [jo 25 1 5,jl 26 25,jo 27 1 6,jl 28 27,
 jB 29 .neq 26 28] [jm 24 29])) (jc 24 (jq ([jk 4 1]) .ret) (jq ((ap [jo 31 0 5,jl 32 31,jo 33 0 6,jl 34 33,jB 35 .lss 32 34] [jm 30 35])) (jc 30
 (jq ([.a 4 (.mv (kI (-1)))]) .ret) (jq ((ap [jo 37 0 5,jl 38 37,jo 39 0 6,jl 40 39,jB 41 .gtr 38 40] [jm 36 41])) (jc 36 (jq ([jk 4 1]) .ret)
 .skip))))))))) (jq ([jk 4 0]) .ret)))))
theorem o0I:Fn Tryz.prog 87 42 [.t 4] g0c:=.of Tryz.func87 (by kernel_rfl)
def d0z:SCode :=
  (jq ([.a 2 (.mv kF)]) (jq ([jk 3 0]) (jq ([jk 4 0]) (.seq (jq ([jk 5 0]) (.block 0 (.loop (.seq (jq ([jm 6 5,jm 7 0,je 8 7,jB 9 .lss 6 8]) (jc 9
 .skip (.exit 0))) (.seq (.block 1 (.seq (jq ((ap [jm 12 0,jm 13 5,jx 14 2 12 13,jo 15 0 14,jl 16 15,jm 17 3,jB 18 .leq 16 17] (ap [jm 19 18,gM
 20 0 19 false] (ap [gM 21 5 19 false,jG 22 (.idx 2 (.t 20) (.t 21)) 19 false,gO 23 0 22 19 false,gL 24 23 19 false,jG 25 (.bin .gtr (.t 24) (kI
 200)) 19 false] (ap [.a 26 (.pick (.t 19) kT (.t 25)),jm 27 26,gM 28 0 27 false] (ap [gM 29 5 27 false,jG 30 (.idx 2 (.t 28) (.t 29)) 27 false,gO
 31 1 30 27 false,gL 32 31 27 false,gM 33 4 27 false,jG 34 (.bin .leq (.t 32) (.t 33)) 27 false] (ap [.a 35 (.pick (.t 27) kT (.t 34)),jm 36 35,gM
 37 0 36 false] (ap [gM 38 5 36 false,jG 39 (.idx 2 (.t 37) (.t 38)) 36 false,gO 40 1 39 36 false,gL 41 40 36 false,jG 42 (.call (kC 114) [(.t 41)])
 36 false] [jG 43 (.unot (.t 42)) 36 false,.a 44 (.pick (.t 36) kT (.t 43))])))))))) (jc 44 (jq ([.a 2 (.mv kF)]) .ret) .skip)) (jq ([jm 45 0,jm 46 5,
 jx 47 2 45 46,jo 48 0 47,jl 49 48,jm 3 49]) (.ops [jm 50 0,jm 51 5,jx 52 2 50 51,jo 53 1 52,jl 54 53,jm 4 54])))) (.ops [jm 10 5,jb 11 .add 10
 1,jm 5 11])))))) (jq ([.a 2 (.mv kT)]) .ret)))))
theorem h0Q:Fn Tryz.prog 83 55 [.t 2] d0z:=.of Tryz.func83 (by kernel_rfl)
structure Im where
 id:Int
 ver:Int
 deriving Inhabited,DecidableEq
def Im.cs (x:Im):List F:=[iF x.id,iF x.ver]
theorem Im.cs_len (x:Im):x.cs.length=2:=rfl
def fIm (l:List Im):F:=.s (l.flatMap Im.cs) l.length
theorem w0T {g:List Im}:slcS (.f (fIm g))=some g.length:=id rfl
theorem u0b {g:List Im}{sz:Nat}{k:IntKind}{i:Int}{K:D→Prop}:idxS sz (.f (fIm g)) (.f (.v (.int k i))) K=((0≤i∧i<g.length)∧K (.rf ((g.flatMap Im.cs).drop (i.toNat*sz)))):=id rfl
theorem b0p {g:List Im}:(g.flatMap Im.cs).length=g.length*2:=b0K Im.cs_len g
theorem h0c {H:List Row}{g:List Im}{k:Nat}(hk:k<g.length):loadA H 2 (.rf ((g.flatMap Im.cs).drop (k*2)))=some (.ag ((Im.cs (gt g k)).map .f)):=b0l Im.cs_len hk
theorem y0Q {g:List Im}{k:Nat}(hk:k<g.length):(g.flatMap Im.cs)[k*2]?=some (iF (gt g k).id):=a0u (j:=0) Im.cs_len hk (by omega)
theorem e0D {g:List Im}{k:Nat}(hk:k<g.length):(g.flatMap Im.cs)[k*2+1]?=some (iF (gt g k).ver):=a0u (j:=1) Im.cs_len hk (by omega)
theorem u0j {l:List Im}{a b:Int}:l.flatMap Im.cs++[F.v (.int .i64 a),.v (.int .i64 b)]=(l++[(⟨a,b⟩:Im)]).flatMap Im.cs:=by simp [Im.cs]
theorem a1X:∀ {l:List Im} {k:Nat} {a:Int},k<l.length→(l.flatMap Im.cs).set (k*2) (.v (.int .i64 a))=(l.set k ⟨a,(gt l k).ver⟩).flatMap Im.cs
 | [],k,a,h=>by simp at h
 | x :: l,0,a,h=>rfl
 | x :: l,k+1,a,h=>by
  have ih:=a1X (l:=l) (k:=k) (a:=a) (by simpa using h)
  rw [List.set_cons_succ,List.flatMap_cons,List.flatMap_cons,show gt (x :: l) (k+1)=gt l k by simp [gt],←ih,show (k+1)*2=k*2+1+1 by omega]
  rfl
theorem LIm:type_of% @w0T∧type_of% @u0b:=⟨@w0T,@u0b⟩
def b0n (l:List Im)(id v:Int):List Im:=if 0<l.length∧(gt l (l.length-1)).ver=v then l.set (l.length-1) ⟨id,v⟩ else l++[⟨id,v⟩]
theorem z0H {l:List Im}{id v:Int}:(b0n l id v).length≤l.length+1:=by
 unfold b0n;split<;>simp
def ofA (first:Int):Nat→List Int→List Im→List Im
 | _,[],acc=>acc
 | i,v :: vs,acc=>ofA first (i+1) vs (b0n acc (first+i) v)
def h0L (vs:List Int)(first:Int):List Im:=ofA first 0 vs []
def ofL (l:List Ev):List Im:=if l=[] then [] else h0L (l.map (·.ver)) (gt l 0).id
set_option maxRecDepth 100000 in
theorem x0Y (vs:List Int)(first:Int)(hv:vs.length≤1000000)(hf:0≤first∧first≤1000000000):Con Tryz.prog 74 [.f (fI vs),D.int first] [] fun r H'=>r = .f (fIm (h0L vs first))∧H'=[]:=by
 refine Con.walk good t0M (by simp) ?_
 unfold m0x
 simp only [a0I]
 refine HS.seq ?_
 repeat' (with_reducible first|refine Wa.h ?_|refine Wb.h fun K hK=>?_|(refine hK _ ?_;clear hK K)|((fail_if_success refine Wz.h ?_);simp (disch:=omega) only [↓LD,LA,a0A,seval]))
 refine HS.seq ?_
 repeat' (with_reducible first|refine Wa.h ?_|refine Wb.h fun K hK=>?_|(refine hK _ ?_;clear hK K)|((fail_if_success refine Wz.h ?_);simp (disch:=omega) only [↓LD,LA,a0A,seval]))
 refine HS.view (View.void 57) ?_
 refine HS.view (View.slot 5 (.sl 0 0 0) (.no (by decide))) ?_
 repeat' (with_reducible first|refine Wx.h ?_|refine Wb.h fun K hK=>?_|(refine hK _ ?_;clear hK K)|((fail_if_success refine Wz.h ?_);simp (disch:=omega) only [↓LD,LA,a0A,seval]))
 refine HS.loopG [0,1,5,6] (fun x:Nat × Nat × List Im=>⟨frm 51 [(0,.f (fI vs)),(1,D.int first),(5,.sl 0 0 x.2.1),(6,D.int x.1)],[.data 57 (x.2.2.flatMap Im.cs)],[]⟩) (fun x=>x.1≤vs.length∧x.2.1=x.2.2.length∧x.2.1≤x.1∧h0L vs first=ofA first x.1 (vs.drop x.1) x.2.2) (fun x=>vs.length-x.1) (0,0,[]) (by kernel_rfl) ⟨Nat.zero_le _,rfl,Nat.zero_le _,rfl⟩ ?_
 rintro ⟨i,n,out⟩ ⟨hi,hn,ho,he⟩
 dsimp only at hi hn ho he
 subst hn
 by_cases hil:i<vs.length
 ·rw [a0G hil,ofA] at he
  have e1:((out.length:Int)-1).toNat=out.length-1:=by omega
  by_cases h0:0<out.length
  ·by_cases hv1:(gt out (out.length-1)).ver=gt vs i
   ·have hgr:b0n out (first+i) (gt vs i)=out.set (out.length-1) ⟨first+i,gt vs i⟩:=if_pos ⟨h0,hv1⟩
    repeat' (with_reducible first|refine Wx.h ?_|refine We.h fun K hK=>?_|refine Wd.h fun K M hK hM=>?_|(refine hK _ _ _ _ ?_;clear hK K;try clear hM M)|refine Wb.h fun K hK=>?_|(refine hK _ ?_;clear hK K)|(refine Wy.h ?_ ?_;kernel_rfl)|refine Wq.h ?_ ?_<;>intro h<;>try (exfalso;omega)|((fail_if_success refine Wz.h ?_);first|simp (disch:=omega) only [↓LD,LA,a0A,seval,b0p,e0D,e1,hv1,a1X]|(refine And.intro ?_ ?_;omega)|fail))
    exact Next.mk (i+1,out.length,out.set (out.length-1) ⟨first+i,gt vs i⟩) (by kernel_rfl) ⟨by dsimp only;omega,by simp,by dsimp only;omega,by rw [he,hgr]⟩ (by dsimp only;omega)
   ·have hgr:b0n out (first+i) (gt vs i)=out++[⟨first+i,gt vs i⟩]:=if_neg (fun h=>hv1 h.2)
    repeat' (with_reducible first|refine Wx.h ?_|refine We.h fun K hK=>?_|refine Wd.h fun K M hK hM=>?_|(refine hK _ _ _ _ ?_;clear hK K;try clear hM M)|refine Wb.h fun K hK=>?_|(refine hK _ ?_;clear hK K)|(refine wF ?_ ?_;assumption)|(refine Wy.h ?_ ?_;kernel_rfl)|refine Wq.h ?_ ?_<;>intro h<;>try (exfalso;omega)|((fail_if_success refine Wz.h ?_);first|simp (disch:=omega) only [↓LD,LA,a0A,seval,b0p,e0D,e1,u0j]|(refine And.intro ?_ ?_;omega)|fail))
    exact Next.mk (i+1,out.length+1,out++[⟨first+i,gt vs i⟩]) (by kernel_rfl) ⟨by dsimp only;omega,by simp,by dsimp only;omega,by rw [he,hgr]⟩ (by dsimp only;omega)
  ·have hgr:b0n out (first+i) (gt vs i)=out++[⟨first+i,gt vs i⟩]:=if_neg (fun h=>h0 h.1)
   repeat' (with_reducible first|refine Wx.h ?_|refine We.h fun K hK=>?_|refine Wd.h fun K M hK hM=>?_|(refine hK _ _ _ _ ?_;clear hK K;try clear hM M)|(refine hM ?_;clear hM M;try clear hK K)|refine Wb.h fun K hK=>?_|(refine hK _ ?_;clear hK K)|(refine Wy.h ?_ ?_;kernel_rfl)|refine Wq.h ?_ ?_<;>intro h<;>try (exfalso;omega)|((fail_if_success refine Wz.h ?_);first|simp (disch:=omega) only [↓LD,LA,a0A,seval,b0p,e0D,e1,u0j]|(refine And.intro ?_ ?_;omega)|fail))
   exact Next.mk (i+1,out.length+1,out++[⟨first+i,gt vs i⟩]) (by kernel_rfl) ⟨by dsimp only;omega,by simp,by dsimp only;omega,by rw [he,hgr]⟩ (by dsimp only;omega)
 ·rw [List.drop_of_length_le (by omega),ofA] at he
  repeat' (with_reducible first|refine Wx.h ?_|refine Wb.h fun K hK=>?_|(refine hK _ ?_;clear hK K)|refine Wq.h ?_ ?_<;>intro h<;>try (exfalso;omega)|((fail_if_success refine Wz.h ?_);simp (disch:=omega) only [↓LD,LA,a0A,seval]))
  rw [he]
  exact end1 rfl rfl (by kernel_rfl) (.sl (T:=57) (xs:=out.flatMap Im.cs) rfl (fun e=>by rw [List.eq_nil_of_length_eq_zero e];rfl)) ⟨rfl,rfl⟩
theorem q0R:∀ (vs:List Int) (first:Int) (i:Nat) (acc:List Im),(ofA first i vs acc).length≤acc.length+vs.length
 | [],_,_,acc=>by simp [ofA]
 | v :: vs,first,i,acc=>by
  have h:=q0R vs first (i+1) (b0n acc (first+i) v)
  have h2:=z0H (l:=acc) (id:=first+i) (v:=v)
  rw [ofA,List.length_cons];omega
theorem e1x (l:List Ev):(ofL l).length≤l.length:=by
 unfold ofL h0L
 split
 ·simp
 ·have:=q0R (l.map (·.ver)) (gt l 0).id 0 []
  simpa using this
set_option maxRecDepth 100000 in
theorem e1I (l:List Ev)(hl:l.length≤1000000)(hid:l≠[]→0≤(gt l 0).id∧(gt l 0).id≤1000000000):Con Tryz.prog 39 [.f (fEv l)] [] fun r H'=>r = .f (fIm (ofL l))∧H'=[]:=by
 refine Con.walk good c1l (by simp) ?_
 unfold z0X
 simp only [a0I]
 refine HS.seq ?_
 repeat' (with_reducible first|refine Wa.h ?_|refine Wb.h fun K hK=>?_|(refine hK _ ?_;clear hK K)|((fail_if_success refine Wz.h ?_);simp (disch:=omega) only [↓LD,LA,a0A,seval]))
 refine HS.seq ?_
 repeat' (with_reducible first|refine Wa.h ?_|refine Wb.h fun K hK=>?_|(refine hK _ ?_;clear hK K)|((fail_if_success refine Wz.h ?_);simp (disch:=omega) only [↓LD,LA,a0A,seval]))
 refine HS.view (View.void 3) ?_
 refine HS.view (View.slot 3 (.sl 0 0 0) (.no (by decide))) ?_
 repeat' (with_reducible first|refine Wx.h ?_|refine Wb.h fun K hK=>?_|(refine hK _ ?_;clear hK K)|((fail_if_success refine Wz.h ?_);simp (disch:=omega) only [↓LD,LA,a0A,seval]))
 refine HS.loopG [0,3,4] (fun i:Nat=>⟨frm 28 [(0,.f (fEv l)),(3,.sl 0 0 i),(4,D.int i)],[.data 3 (((l.take i).map (·.ver)).map iF)],[]⟩) (fun i=>i≤l.length) (fun i=>l.length-i) 0 (by kernel_rfl) (Nat.zero_le _) ?_
 rintro i hi
 by_cases hil:i<l.length
 ·have hlen:(l.take i).length=i:=by rw [List.length_take];omega
  have ha:((l.take i).map (·.ver)).map iF++[.v (.int .i64 (gt l i).ver)]=((l.take (i+1)).map (·.ver)).map iF:=by
   rw [List.take_succ_eq_append_getElem hil,List.map_append,List.map_append,←b0P hil];rfl
  repeat' (with_reducible first|refine Wx.h ?_|refine Wb.h fun K hK=>?_|(refine hK _ ?_;clear hK K)|refine Wq.h ?_ ?_<;>intro h<;>try (exfalso;omega)|((fail_if_success refine Wz.h ?_);first|simp (disch:=omega) only [↓LD,LA,a0A,seval,LEv,d0f,a0L,Ev.cs,List.length_map,hlen,ha]|(refine And.intro ?_ ?_;omega)|fail))
  exact Next.mk (i+1) (by kernel_rfl) (by omega) (by omega)
 ·rw [List.take_of_length_le (by omega)]
  have hil:i=l.length:=by omega
  subst hil
  by_cases h0:l=[]
  ·subst h0
   repeat' (with_reducible first|refine Wx.h ?_|refine Wb.h fun K hK=>?_|(refine hK _ ?_;clear hK K)|((fail_if_success refine Wz.h ?_);simp (disch:=omega) only [↓LD,LA,a0A,seval,LEv]))
   exact end1 rfl rfl (by kernel_rfl) .nil ⟨rfl,rfl⟩
  ·have h0':¬ (l.length:Int)=0:=fun e=>h0 (List.eq_nil_of_length_eq_zero (by omega))
   obtain ⟨d1,d2⟩:=hid h0
   have ea:=k0G (g:=l) (k:=0) (by omega)
   rw [Nat.zero_mul] at ea
   repeat' (with_reducible first|refine Wx.h ?_|refine Wb.h fun K hK=>?_|(refine hK _ ?_;clear hK K)|(refine wF ?_ ?_;assumption)|refine Wq.h ?_ ?_<;>intro h<;>try (exfalso;omega)|((fail_if_success refine Wz.h ?_);first|simp (disch:=omega) only [↓LD,LA,a0A,seval,LEv,ea,a0L,Ev.cs]|(refine And.intro ?_ ?_;omega)|fail))
   have hl2:(l.map (·.ver)).length=l.length:=by simp
   refine d0J [0] (args0:=[.f (fI (l.map (·.ver))),D.int (gt l 0).id]) (.cons ?_ (.cons .f .nil)) ?_
   ·rw [fI,hl2]
    refine .sl (T:=3) (xs:=(l.map (·.ver)).map iF) ?_ (fun e=>absurd (List.eq_nil_of_length_eq_zero e) h0)
    rfl
   refine a0C (x0Y (l.map (·.ver)) (gt l 0).id (by omega) ⟨d1,d2⟩) rfl rfl rfl ?_
   have ho:ofL l=h0L (l.map (·.ver)) (gt l 0).id:=if_neg h0
   rw [←ho]
   repeat' (with_reducible first|refine Wx.h ?_|(refine hK _ ?_;clear hK K)|((fail_if_success refine Wz.h ?_);simp (disch:=omega) only [↓LD,LA,a0A,seval]))
   exact end1 rfl rfl (by kernel_rfl) .f ⟨rfl,rfl⟩
def IdL (l:List Ev):Prop:=l.length≤1000000∧(l≠[]→0≤(gt l 0).id∧(gt l 0).id≤1000000000)
instance {l:List Ev}{H:List Row}{K:D→List Row→Prop}[hl:Kn (IdL l)]:Wa (a0P Tryz.prog (.fn 39 []) [.f (fEv l)] H K) (K (.f (fIm (ofL l))) H):=⟨fun h=>a0C (e1I l hl.h.1 hl.h.2) rfl rfl rfl h⟩
def f0F:SCode :=
  (jq ([.a 4 (.mv kF)]) (.seq (jq ([jm 6 0,je 7 6,jm 8 1,je 9 8,jB 10 .neq 7 9]) (jc 10 (jq ([.a 4 (.mv kF)]) .ret) .skip)) (.seq (jq ([jk 5 0])
 (.block 0 (.loop (.seq (jq ([jm 11 5,jm 12 0,je 13 12,jB 14 .lss 11 13]) (jc 14 .skip (.exit 0))) (.seq (.block 1 (.seq (.drw [jm 17 0,jm 18 5,jx
 19 3 17 18,jo 20 1 19,jl 21 20,jm 22 1,jm 23 5,jx 24 3 22 23,jo 25 1 24,jl 26 25,jB 27 .neq 21 26,jm 28 27,gM 29 0 28 false,gM 30 5 28
 false,jG 31 (.idx 3 (.t 29) (.t 30)) 28 false,gO 32 2 31 28 false,gL 33 32 28 false,gM 34 1 28 false,gM 35 5 28 false,jG 36 (.idx 3 (.t 34) (.t
 35)) 28 false,gO 37 2 36 28 false,gL 38 37 28 false,jG 39 (.bin .neq (.t 33) (.t 38)) 28 false,.a 40 (.pick (.t 28) kT (.t 39)),jm 41 40,gM 42 0
 41 false,gM 43 5 41 false,jG 44 (.idx 3 (.t 42) (.t 43)) 41 false,gO 45 0 44 41 false,gL 46 45 41 false,gM 47 1 41 false,gM 48 5 41 false,jG 49
 (.idx 3 (.t 47) (.t 48)) 41 false,gO 50 0 49 41 false,gL 51 50 41 false,jG 52 (.call (kC 129) [(.t 46),(.t 51)]) 41 false,jG 53 (.unot (.t 52)) 41
 false,.a 54 (.pick (.t 41) kT (.t 53))] [0,0,3,7,15,0,0,96,224,480,1023,2047,4095,4095,16383,32767,65535,4095,4095,397311,921599,
 1970175,4194303,8388607,16777215,33554431,33554431,134217727,268435455,536870911,33554431,33554431,3254779903,7549747199,16139681791,
 34359738367,68719476735,137438953471]) (jc 54 (jq ([.a 4 (.mv kF)]) .ret) .skip))) (.ops [jm 15 5,jb 16 .add 15 1,jm 5 16])))))) (jq ([.a 4 (.mv
 kT)]) .ret))))
theorem k0W:Fn Tryz.prog 82 55 [.t 4] f0F:=.of Tryz.func82 (by kernel_rfl)
def f0U:SCode :=
  (jq ([.a 4 (.mv kF)]) (.seq (jq ([jm 6 0,je 7 6,jm 8 1,je 9 8,jB 10 .neq 7 9]) (jc 10 (jq ([.a 4 (.mv kF)]) .ret) .skip)) (.seq (jq ([jk 5 0])
 (.block 0 (.loop (.seq (jq ([jm 11 5,jm 12 0,je 13 12,jB 14 .lss 11 13]) (jc 14 .skip (.exit 0))) (.seq (.block 1 (.seq (.drw [jm 17 0,jm 18 5,jx
 19 1 17 18,jl 20 19,jm 21 1,jm 22 5,jx 23 1 21 22,jl 24 23,jB 25 .neq 20 24] [0,0,3,7,0,0,48,112,255]) (jc 25 (jq ([.a 4 (.mv kF)]) .ret)
 .skip))) (.ops [jm 15 5,jb 16 .add 15 1,jm 5 16])))))) (jq ([.a 4 (.mv kT)]) .ret))))
theorem k0T:Fn Tryz.prog 129 26 [.t 4] f0U:=.of Tryz.func129 (by kernel_rfl)
def k0F (l:List Nd):Prop:=l.length≤1000000∧∀ x∈l,x.ns.length≤1000000
theorem c1G {H:List Row}{g:List Nd}{k:Nat}(hk:k<g.length):loadA H 3 (.rf ((g.flatMap Nd.cs).drop (k*3)))=some (.ag ((Nd.cs (gt g k)).map .f)):=b0l Nd.cs_len hk
theorem s0M {g:List Nd}:(g.flatMap Nd.cs).length=g.length*3:=b0K Nd.cs_len g
theorem n0K (l m:List Int)(hl:l.length≤1000000)(hm:m.length≤1000000):Con Tryz.prog 129 [.f (fI l),.f (fI m)] [] fun r H'=>r=D.bool (eqB l m)∧H'=[]:=by
 refine Con.walk good k0T (by simp) ?_
 unfold f0U
 simp only [a0I]
 by_cases hlm:(l.length:Int)=m.length
 rotate_left
 ·repeat' (with_reducible first|refine Wx.h ?_|refine Wb.h fun K hK=>?_|(refine hK _ ?_;clear hK K)|(refine wF ?_ ?_;assumption)|((fail_if_success refine Wz.h ?_);simp (disch:=omega) only [↓LD,LA,a0A,seval,LSt]))
  rw [f0D hlm]
  exact end1 rfl rfl (by kernel_rfl) .f ⟨rfl,rfl⟩
 repeat' (with_reducible first|refine Wx.h ?_|refine Wb.h fun K hK=>?_|(refine hK _ ?_;clear hK K)|(refine wT ?_ ?_;assumption)|((fail_if_success refine Wz.h ?_);simp (disch:=omega) only [↓LD,LA,a0A,seval,LSt]))
 refine HS.loopG [0,1,5] (fun i:Nat=>⟨frm 26 [(0,.f (fI l)),(1,.f (fI m)),(5,D.int i)],[],[]⟩) (fun i=>i≤l.length∧l.take i=m.take i) (fun i=>l.length-i) 0 (by kernel_rfl) ⟨Nat.zero_le _,rfl⟩ ?_
 rintro i ⟨hi,ht⟩
 by_cases hil:i<l.length
 ·by_cases e:gt l i=gt m i
  ·repeat' (with_reducible first|refine Wx.h ?_|refine We.h fun K hK=>?_|(refine hK _ _ _ _ ?_;clear hK K;try clear hM M)|refine Wb.h fun K hK=>?_|(refine hK _ ?_;clear hK K)|(refine wT ?_ ?_;assumption)|(refine Wy.h ?_ ?_;kernel_rfl)|refine Wq.h ?_ ?_<;>intro h<;>try (exfalso;omega)|((fail_if_success refine Wz.h ?_);first|simp (disch:=omega) only [↓LD,LA,a0A,seval,LSt]|(refine And.intro ?_ ?_;omega)|fail))
   exact Next.mk (i+1) (by kernel_rfl) ⟨by omega,c0f hlm hil ht e⟩ (by omega)
  ·repeat' (with_reducible first|refine Wx.h ?_|refine We.h fun K hK=>?_|(refine hK _ _ _ _ ?_;clear hK K;try clear hM M)|refine Wb.h fun K hK=>?_|(refine hK _ ?_;clear hK K)|(refine wF ?_ ?_;assumption)|(refine Wy.h ?_ ?_;kernel_rfl)|refine Wq.h ?_ ?_<;>intro h<;>try (exfalso;omega)|((fail_if_success refine Wz.h ?_);first|simp (disch:=omega) only [↓LD,LA,a0A,seval,LSt]|(refine And.intro ?_ ?_;omega)|fail))
   rw [i0q e]
   exact end1 rfl rfl (by kernel_rfl) .f ⟨rfl,rfl⟩
 ·repeat' (with_reducible first|refine Wx.h ?_|refine Wb.h fun K hK=>?_|(refine hK _ ?_;clear hK K)|refine Wq.h ?_ ?_<;>intro h<;>try (exfalso;omega)|((fail_if_success refine Wz.h ?_);simp (disch:=omega) only [↓LD,LA,a0A,seval,LSt]))
  rw [e0r hlm ht (by omega)]
  exact end1 rfl rfl (by kernel_rfl) .f ⟨rfl,rfl⟩
instance {a b:List Int}{H:List Row}{K:Bool→D→List Row→Prop}[ha:Kn (a.length≤1000000)][hb:Kn (b.length≤1000000)]:Wa (a0k Tryz.prog (.fn 129 []) [.f (fI a),.f (fI b)] H K) (K true (.f (.v (.bool (eqB a b)))) H):=⟨fun h=>a0M (n0K a b ha.h hb.h) rfl rfl rfl h⟩
set_option maxRecDepth 100000 in
theorem n0N (l m:List Nd)(hl:k0F l)(hm:k0F m):Con Tryz.prog 82 [.f (fG l),.f (fG m)] [] fun r H'=>r=D.bool (eqB l m)∧H'=[]:=by
 obtain ⟨hl,hln⟩:=hl
 obtain ⟨hm,hmn⟩:=hm
 refine Con.walk good k0W (by simp) ?_
 unfold f0F
 simp only [a0I]
 by_cases hlm:(l.length:Int)=m.length
 rotate_left
 ·repeat' (with_reducible first|refine Wx.h ?_|refine Wb.h fun K hK=>?_|(refine hK _ ?_;clear hK K)|(refine wF ?_ ?_;assumption)|((fail_if_success refine Wz.h ?_);simp (disch:=omega) only [↓LD,LA,a0A,seval,LSt]))
  rw [f0D hlm]
  exact end1 rfl rfl (by kernel_rfl) .f ⟨rfl,rfl⟩
 repeat' (with_reducible first|refine Wx.h ?_|refine Wb.h fun K hK=>?_|(refine hK _ ?_;clear hK K)|(refine wT ?_ ?_;assumption)|((fail_if_success refine Wz.h ?_);simp (disch:=omega) only [↓LD,LA,a0A,seval,LSt]))
 refine HS.loopG [0,1,5] (fun i:Nat=>⟨frm 55 [(0,.f (fG l)),(1,.f (fG m)),(5,D.int i)],[],[]⟩) (fun i=>i≤l.length∧l.take i=m.take i) (fun i=>l.length-i) 0 (by kernel_rfl) ⟨Nat.zero_le _,rfl⟩ ?_
 rintro i ⟨hi,ht⟩
 by_cases hil:i<l.length
 ·haveI:Kn ((gt l i).ns.length≤1000000):=⟨hln _ (a0K hil)⟩
  haveI:Kn ((gt m i).ns.length≤1000000):=⟨hmn _ (a0K (by omega))⟩
  by_cases e:gt l i=gt m i
  ·have hb:eqB (gt m i).ns (gt m i).ns=true:=d0a
   repeat' (with_reducible first|refine Wx.h ?_|refine We.h fun K hK=>?_|refine Wd.h fun K M hK hM=>?_|(refine hK _ _ _ _ ?_;clear hK K;try clear hM M)|refine Wb.h fun K hK=>?_|(refine hK _ ?_;clear hK K)|(refine Wy.h ?_ ?_;kernel_rfl)|refine Wq.h ?_ ?_<;>intro h<;>try (exfalso;omega)|((fail_if_success refine Wz.h ?_);first|simp (disch:=omega) only [↓LD,LA,a0A,seval,LSt,s0M,b0X,b0Y,b0Q,hb,e,Bool.not_true]|(refine And.intro ?_ ?_;omega)|fail))
   exact Next.mk (i+1) (by kernel_rfl) ⟨by omega,c0f hlm hil ht e⟩ (by omega)
  ·have hb:(gt l i).tr=(gt m i).tr→(gt l i).le=(gt m i).le→eqB (gt l i).ns (gt m i).ns=false:=fun h1 h2=>d0v fun h3=>e (by
    cases hx:gt l i;cases hy:gt m i;rw [hx,hy] at h1 h2 h3;dsimp only at h1 h2 h3;rw [h1,h2,h3])
   repeat' (with_reducible first|refine Wx.h ?_|refine We.h fun K hK=>?_|refine Wd.h fun K M hK hM=>?_|(refine hK _ _ _ _ ?_;clear hK K;try clear hM M)|(refine hM ?_;clear hM M;try clear hK K)|refine Wb.h fun K hK=>?_|(refine hK _ ?_;clear hK K)|(refine Wy.h ?_ ?_;kernel_rfl)|refine Wq.h ?_ ?_<;>intro h<;>try (exfalso;omega)|((fail_if_success refine Wz.h ?_);first|simp (disch:=omega) only [↓LD,LA,a0A,seval,LSt,s0M,b0X,b0Y,b0Q,hb]|(refine And.intro ?_ ?_;omega)|fail))
   all_goals
    rw [i0q e]
    exact end1 rfl rfl (by kernel_rfl) .f ⟨rfl,rfl⟩
 ·repeat' (with_reducible first|refine Wx.h ?_|refine Wb.h fun K hK=>?_|(refine hK _ ?_;clear hK K)|refine Wq.h ?_ ?_<;>intro h<;>try (exfalso;omega)|((fail_if_success refine Wz.h ?_);simp (disch:=omega) only [↓LD,LA,a0A,seval,LSt]))
  rw [e0r hlm ht (by omega)]
  exact end1 rfl rfl (by kernel_rfl) .f ⟨rfl,rfl⟩
instance {a b:List Nd}{H:List Row}{K:D→List Row→Prop}[ha:Kn (k0F a)][hb:Kn (k0F b)]:Wa (a0P Tryz.prog (.fn 82 []) [.f (fG a),.f (fG b)] H K) (K (.f (.v (.bool (eqB a b)))) H):=⟨fun h=>a0C (n0N a b ha.h hb.h) rfl rfl rfl h⟩
theorem FitV.df {e:Ev}(h:FitV e):k0F e.defs:=⟨by have:=h.2.2.1;omega,fun x hx=>by have:=h.2.2.2 x hx;omega⟩
set_option maxRecDepth 100000 in
theorem z0I (a b:Ev)(ha:FitV a)(hb:FitV b):Con Tryz.prog 50 [evD a,evD b] [] fun r H'=>r=D.bool (eqB a b)∧H'=[]:=by
 haveI:Kn (k0F a.defs):=⟨ha.df⟩
 haveI:Kn (k0F b.defs):=⟨hb.df⟩
 clear ha hb
 suffices hh:∀ Q:D→List Row→Prop,Q (D.bool (eqB a b)) []→Con Tryz.prog 50 [evD a,evD b] [] Q from hh _ ⟨rfl,rfl⟩
 intro Q hQ
 obtain ⟨a1,a2,a3,a4,a5,a6,a7,a8,a9⟩:=a
 obtain ⟨b1,b2,b3,b4,b5,b6,b7,b8,b9⟩:=b
 dsimp only at *
 have hf:¬ ((⟨a1,a2,a3,a4,a5,a6,a7,a8,a9⟩:Ev)=⟨b1,b2,b3,b4,b5,b6,b7,b8,b9⟩)→Q (D.bool false) []:=fun h=>by rw [d0v h] at hQ;exact hQ
 refine Con.walk good w0i (by simp) ?_
 unfold o0d
 simp only [a0I,evD]
 repeat' (with_reducible first|refine Wx.h ?_|refine Wb.h fun K hK=>?_|(refine hK _ ?_;clear hK K)|refine Wq.h ?_ ?_<;>intro h|((fail_if_success refine Wz.h ?_);simp (disch:=omega) only [↓LD,LA,a0A,seval,p0H]))
 ·rename_i q1 q2 q3 q4 q5 q6 q7
  have q8:a8=b8:=by simpa using h
  have he:eqB (⟨a1,a2,a3,a4,a5,a6,a7,a8,a9⟩:Ev) ⟨b1,b2,b3,b4,b5,b6,b7,b8,b9⟩=eqB a9 b9:=by
   rw [q1,q2,q3,q4,q5,q6,q7,q8]
   by_cases e9:a9=b9
   ·rw [e9,d0a,d0a]
   ·rw [d0v e9,d0v (fun e=>e9 (Ev.mk.inj e).2.2.2.2.2.2.2.2)]
  rw [he] at hQ
  exact end1 rfl rfl (by kernel_rfl) .f hQ
 all_goals
  refine end1 rfl rfl (by kernel_rfl) .f (hf ?_)
  intro e;cases e;contradiction
instance {a b:Ev}{H:List Row}{K:Bool→D→List Row→Prop}[ha:Kn (FitV a)][hb:Kn (FitV b)]:Wa (a0k Tryz.prog (.fn 50 []) [eA a,eA b] H K) (K true (.f (.v (.bool (eqB a b)))) H):=⟨fun h=>a0M (z0I a b ha.h hb.h) rfl rfl rfl h⟩
def FitL (l:List Ev):Prop:=l.length≤1000000∧∀ e∈l,FitV e
theorem FitL.take {l:List Ev}(h:FitL l)(n:Nat):FitL (l.take n):=⟨by have:=h.1;rw [List.length_take];omega,fun e he=>h.2 e (List.mem_of_mem_take he)⟩
set_option maxRecDepth 100000 in
theorem g0p (l m:List Ev)(hl:FitL l)(hm:FitL m):Con Tryz.prog 17 [.f (fEv l),.f (fEv m)] [] fun r H'=>r=D.bool (eqB l m)∧H'=[]:=by
 obtain ⟨hl,hln⟩:=hl
 obtain ⟨hm,hmn⟩:=hm
 refine Con.walk good n0m (by simp) ?_
 unfold g0f
 simp only [a0I]
 by_cases hlm:(l.length:Int)=m.length
 rotate_left
 ·repeat' (with_reducible first|refine Wx.h ?_|refine Wb.h fun K hK=>?_|(refine hK _ ?_;clear hK K)|(refine wF ?_ ?_;assumption)|((fail_if_success refine Wz.h ?_);simp (disch:=omega) only [↓LD,LA,a0A,seval,LEv]))
  rw [f0D hlm]
  exact end1 rfl rfl (by kernel_rfl) .f ⟨rfl,rfl⟩
 repeat' (with_reducible first|refine Wx.h ?_|refine Wb.h fun K hK=>?_|(refine hK _ ?_;clear hK K)|(refine wT ?_ ?_;assumption)|((fail_if_success refine Wz.h ?_);simp (disch:=omega) only [↓LD,LA,a0A,seval,LEv]))
 refine HS.loopG [0,1,5] (fun i:Nat=>⟨frm 27 [(0,.f (fEv l)),(1,.f (fEv m)),(5,D.int i)],[],[]⟩) (fun i=>i≤l.length∧l.take i=m.take i) (fun i=>l.length-i) 0 (by kernel_rfl) ⟨Nat.zero_le _,rfl⟩ ?_
 rintro i ⟨hi,ht⟩
 by_cases hil:i<l.length
 ·haveI:Kn (FitV (gt l i)):=⟨hln _ (a0K hil)⟩
  haveI:Kn (FitV (gt m i)):=⟨hmn _ (a0K (by omega))⟩
  by_cases e:gt l i=gt m i
  ·have hb:=f0p e
   repeat' (with_reducible first|refine Wx.h ?_|refine We.h fun K hK=>?_|(refine hK _ _ _ _ ?_;clear hK K;try clear hM M)|refine Wb.h fun K hK=>?_|(refine hK _ ?_;clear hK K)|(refine Wy.h ?_ ?_;kernel_rfl)|refine Wq.h ?_ ?_<;>intro h<;>try (exfalso;omega)|((fail_if_success refine Wz.h ?_);first|simp (disch:=omega) only [↓LD,LA,a0A,seval,LEv,c0T,a0L,Ev.cs,hb,-a0A]|(refine And.intro ?_ ?_;omega)|fail))
   exact Next.mk (i+1) (by kernel_rfl) ⟨by omega,c0f hlm hil ht e⟩ (by omega)
  ·have hb:=d0v e
   repeat' (with_reducible first|refine Wx.h ?_|refine We.h fun K hK=>?_|(refine hK _ _ _ _ ?_;clear hK K;try clear hM M)|refine Wb.h fun K hK=>?_|(refine hK _ ?_;clear hK K)|(refine Wy.h ?_ ?_;kernel_rfl)|refine Wq.h ?_ ?_<;>intro h<;>try (exfalso;omega)|((fail_if_success refine Wz.h ?_);first|simp (disch:=omega) only [↓LD,LA,a0A,seval,LEv,c0T,a0L,Ev.cs,hb,-a0A]|(refine And.intro ?_ ?_;omega)|fail))
   rw [i0q e]
   exact end1 rfl rfl (by kernel_rfl) .f ⟨rfl,rfl⟩
 ·repeat' (with_reducible first|refine Wx.h ?_|refine Wb.h fun K hK=>?_|(refine hK _ ?_;clear hK K)|refine Wq.h ?_ ?_<;>intro h<;>try (exfalso;omega)|((fail_if_success refine Wz.h ?_);simp (disch:=omega) only [↓LD,LA,a0A,seval,LEv]))
  rw [e0r hlm ht (by omega)]
  exact end1 rfl rfl (by kernel_rfl) .f ⟨rfl,rfl⟩
instance {a b:List Ev}{H:List Row}{K:D→List Row→Prop}[ha:Kn (FitL a)][hb:Kn (FitL b)]:Wa (a0P Tryz.prog (.fn 17 []) [.f (fEv a),.f (fEv b)] H K) (K (.f (.v (.bool (eqB a b)))) H):=⟨fun h=>a0C (g0p a b ha.h hb.h) rfl rfl rfl h⟩
instance {a b:List Ev}{H:List Row}{K:Bool→D→List Row→Prop}[ha:Kn (FitL a)][hb:Kn (FitL b)]:Wa (a0k Tryz.prog (.fn 17 []) [.f (fEv a),.f (fEv b)] H K) (K true (.f (.v (.bool (eqB a b)))) H):=⟨fun h=>a0M (g0p a b ha.h hb.h) rfl rfl rfl h⟩
def alkB (a b:Ev):Bool:=decide (a.id=b.id)&&decide (a.ver=b.ver)
def b0J:List Ev→List Ev→Nat
 | a :: l,b :: m=>if alkB a b=true then b0J l m+1 else 0
 | _,_=>0
theorem f0q:∀ (l m:List Ev),b0J l m≤l.length∧b0J l m≤m.length
 | a :: l,b :: m=>by
  have ih:=f0q l m
  unfold b0J
  split<;>simp<;>omega
 | [],m=>by simp [b0J]
 | a :: l,[]=>by simp [b0J]
set_option maxRecDepth 100000 in
theorem x0D (l m:List Ev)(hl:l.length≤1000000)(hm:m.length≤1000000):Con Tryz.prog 85 [.f (fEv l),.f (fEv m)] [] fun r H'=>r=D.int (b0J l m)∧H'=[]:=by
 refine Con.walk good s0O (by simp) ?_
 unfold m0Y
 simp only [a0I]
 repeat' (with_reducible first|refine Wx.h ?_|refine Wb.h fun K hK=>?_|(refine hK _ ?_;clear hK K)|((fail_if_success refine Wz.h ?_);simp (disch:=omega) only [↓LD,LA,a0A,seval,LEv]))
 refine HS.loopG [0,1,5] (fun i:Nat=>⟨frm 45 [(0,.f (fEv l)),(1,.f (fEv m)),(5,D.int i)],[],[]⟩) (fun i=>i≤l.length∧i≤m.length∧b0J l m=b0J (l.drop i) (m.drop i)+i) (fun i=>l.length-i) 0 (by kernel_rfl) ⟨Nat.zero_le _,Nat.zero_le _,rfl⟩ ?_
 rintro i ⟨hi,hj,ha⟩
 by_cases hil:i<l.length∧i<m.length
 ·obtain ⟨hil,him⟩:=hil
  rw [a0G hil,a0G him,b0J] at ha
  by_cases e1:(gt l i).id=(gt m i).id
  ·by_cases e2:(gt l i).ver=(gt m i).ver
   ·rw [if_pos (by simp [alkB,e1,e2])] at ha
    repeat' (with_reducible first|refine Wx.h ?_|refine We.h fun K hK=>?_|refine Wd.h fun K M hK hM=>?_|(refine hK _ _ _ _ ?_;clear hK K;try clear hM M)|refine Wb.h fun K hK=>?_|(refine hK _ ?_;clear hK K)|(refine wT ?_ ?_;assumption)|(refine Wy.h ?_ ?_;kernel_rfl)|refine Wq.h ?_ ?_<;>intro h<;>try (exfalso;omega)|((fail_if_success refine Wz.h ?_);first|simp (disch:=omega) only [↓LD,LA,a0A,seval,LEv,a0L,k0G,d0f,Ev.cs]|(refine And.intro ?_ ?_;omega)|fail))
    exact Next.mk (i+1) (by kernel_rfl) ⟨by omega,by omega,by omega⟩ (by omega)
   ·rw [if_neg (by simp [alkB,e1,e2])] at ha
    repeat' (with_reducible first|refine Wx.h ?_|refine We.h fun K hK=>?_|refine Wd.h fun K M hK hM=>?_|(refine hK _ _ _ _ ?_;clear hK K;try clear hM M)|refine Wb.h fun K hK=>?_|(refine hK _ ?_;clear hK K)|(refine wT ?_ ?_;assumption)|(refine wF ?_ ?_;assumption)|(refine Wy.h ?_ ?_;kernel_rfl)|refine Wq.h ?_ ?_<;>intro h<;>try (exfalso;omega)|((fail_if_success refine Wz.h ?_);first|simp (disch:=omega) only [↓LD,LA,a0A,seval,LEv,a0L,k0G,d0f,Ev.cs]|(refine And.intro ?_ ?_;omega)|fail))
    rw [ha,Nat.zero_add]
    exact end1 rfl rfl (by kernel_rfl) .f ⟨rfl,rfl⟩
  ·rw [if_neg (by simp [alkB,e1])] at ha
   repeat' (with_reducible first|refine Wx.h ?_|refine We.h fun K hK=>?_|refine Wd.h fun K M hK hM=>?_|(refine hK _ _ _ _ ?_;clear hK K;try clear hM M)|(refine hM ?_;clear hM M;try clear hK K)|refine Wb.h fun K hK=>?_|(refine hK _ ?_;clear hK K)|(refine wF ?_ ?_;assumption)|(refine Wy.h ?_ ?_;kernel_rfl)|refine Wq.h ?_ ?_<;>intro h<;>try (exfalso;omega)|((fail_if_success refine Wz.h ?_);first|simp (disch:=omega) only [↓LD,LA,a0A,seval,LEv,a0L,k0G,d0f,Ev.cs]|(refine And.intro ?_ ?_;omega)|fail))
   rw [ha,Nat.zero_add]
   exact end1 rfl rfl (by kernel_rfl) .f ⟨rfl,rfl⟩
 ·have h0:b0J (l.drop i) (m.drop i)=0:=by
   have h:=f0q (l.drop i) (m.drop i)
   rw [List.length_drop,List.length_drop] at h
   omega
  rw [h0,Nat.zero_add] at ha
  rw [ha]
  clear ha h0
  by_cases hil2:i<l.length
  ·have him:¬ i<m.length:=fun e=>hil ⟨hil2,e⟩
   clear hil
   repeat' (with_reducible first|refine Wx.h ?_|refine We.h fun K hK=>?_|refine Wd.h fun K M hK hM=>?_|(refine hK _ _ _ _ ?_;clear hK K;try clear hM M)|(refine hM ?_;clear hM M;try clear hK K)|refine Wb.h fun K hK=>?_|(refine hK _ ?_;clear hK K)|(refine Wy.h ?_ ?_;kernel_rfl)|refine Wq.h ?_ ?_<;>intro h<;>try (exfalso;omega)|((fail_if_success refine Wz.h ?_);simp (disch:=omega) only [↓LD,LA,a0A,seval,LEv]))
   exact end1 rfl rfl (by kernel_rfl) .f ⟨rfl,rfl⟩
  ·clear hil
   repeat' (with_reducible first|refine Wx.h ?_|refine We.h fun K hK=>?_|refine Wd.h fun K M hK hM=>?_|(refine hK _ _ _ _ ?_;clear hK K;try clear hM M)|(refine hM ?_;clear hM M;try clear hK K)|refine Wb.h fun K hK=>?_|(refine hK _ ?_;clear hK K)|(refine Wy.h ?_ ?_;kernel_rfl)|refine Wq.h ?_ ?_<;>intro h<;>try (exfalso;omega)|((fail_if_success refine Wz.h ?_);simp (disch:=omega) only [↓LD,LA,a0A,seval,LEv]))
   exact end1 rfl rfl (by kernel_rfl) .f ⟨rfl,rfl⟩
instance {a b:List Ev}{H:List Row}{K:D→List Row→Prop}[ha:Kn (FitL a)][hb:Kn (FitL b)]:Wa (a0P Tryz.prog (.fn 85 []) [.f (fEv a),.f (fEv b)] H K) (K (.f (.v (.int .i64 (b0J a b)))) H):=⟨fun h=>a0C (x0D a b ha.h.1 hb.h.1) rfl rfl rfl h⟩
noncomputable def begB (a b:List Ev):Bool:=decide (a.length≤b.length)&&eqB a (b.take a.length)
theorem c0x {H:List Row}{E:TypeId}{b:List Ev}{h:Nat}(hh:h≤b.length):subS H 9 E (.f (fEv b)) 0 h=some (.f (fEv (b.take h))):=by
 rw [fEv,m0p,fEv,List.length_take,Nat.min_eq_left hh]
 have key:∀ (l:List Ev) (k:Nat),(l.flatMap Ev.cs).take (k*9)=(l.take k).flatMap Ev.cs:=by
  intro l
  induction l with
  | nil=>intro k;simp
  | cons e l ih =>
   intro k
   cases k with
   | zero=>simp
   | succ k =>
    rw [List.take_succ_cons,List.flatMap_cons,List.flatMap_cons,List.take_append,List.take_of_length_le (by rw [Ev.cs_len];omega),Ev.cs_len,show (k+1)*9-9=k*9 by omega,ih]
 simp [key]
set_option maxRecDepth 100000 in
theorem t0K (a b:List Ev)(ha:FitL a)(hb:FitL b):Con Tryz.prog 86 [.f (fEv a),.f (fEv b)] [] fun r H'=>r=D.bool (begB a b)∧H'=[]:=by
 refine Con.walk good p0R (by simp) ?_
 unfold h0l
 simp only [a0I]
 haveI:Kn (FitL a):=⟨ha⟩
 haveI:Kn (FitL (b.take a.length)):=⟨hb.take _⟩
 unfold begB
 by_cases h:a.length≤b.length
 ·have hs:∀ H:List Row,subS H 9 73 (.f (fEv b)) 0 a.length=some (.f (fEv (b.take a.length))):=fun H=>c0x h
  rw [decide_eq_true h,Bool.true_and]
  generalize b.take a.length=bt at *
  repeat' (with_reducible first|refine Wx.h ?_|refine Wb.h fun K hK=>?_|(refine hK _ ?_;clear hK K)|refine Wq.h ?_ ?_<;>intro h<;>try (exfalso;omega)|((fail_if_success refine Wz.h ?_);first|simp (disch:=omega) only [↓LD,LA,a0A,seval,LEv,hs,Int.toNat_natCast]|(refine And.intro ?_ ?_;omega)|fail))
  exact end1 rfl rfl (by kernel_rfl) .f ⟨rfl,rfl⟩
 ·rw [decide_eq_false h,Bool.false_and]
  repeat' (with_reducible first|refine Wx.h ?_|refine Wb.h fun K hK=>?_|(refine hK _ ?_;clear hK K)|refine Wq.h ?_ ?_<;>intro h<;>try (exfalso;omega)|((fail_if_success refine Wz.h ?_);simp (disch:=omega) only [↓LD,LA,a0A,seval,LEv]))
  exact end1 rfl rfl (by kernel_rfl) .f ⟨rfl,rfl⟩
instance {a b:List Ev}{H:List Row}{K:D→List Row→Prop}[ha:Kn (FitL a)][hb:Kn (FitL b)]:Wa (a0P Tryz.prog (.fn 86 []) [.f (fEv a),.f (fEv b)] H K) (K (.f (.v (.bool (begB a b)))) H):=⟨fun h=>a0C (t0K a b ha.h hb.h) rfl rfl rfl h⟩
end Go.Proofs.YthjgmldnegaaiaaGreatDoor.Mir
