/- Lemmas for the proof. No condition. -/
import Derived.Test.YthjgmldnegaaiaaGreatDoorQg11
set_option linter.unusedVariables false
set_option linter.unusedSimpArgs false
namespace Go.Proofs.YthjgmldnegaaiaaGreatDoor.Mir
open Go Go.RowKit
set_option maxHeartbeats 4000000
instance {ds:List Nd}{H:List Row}{K:D→List Row→Prop}[hf:Kn (Fit ds)]:Wa (a0T Tryz.prog (.fn 104 []) [.f (fG ds)] H K) (K (.f (.v (.int .i64 (a0t ds)))) H) :=
 ⟨fun h=>a0C (t0l ds hf.h) rfl rfl rfl h⟩
instance {e:Ev}{b:Bool}{H:List Row}{K:D→List Row→Prop}[hb:Vb (b0K e) b][hf:Small e.defs][hn:Kn (e.name.length≤1000000)]:Wa (a0T Tryz.prog (.fn 103 []) [.ag [.f (.v (.int .i64 e.id)),.f (.v (.int .i64 e.ver)),.f (.v (.int .i64 e.time)),.f (.v (.int .i64 e.ty)),.f (.v (.int .i64 e.node)),.f (.v (.int .i64 e.n)),.f (.v (.string (BB e.name))),.f (fY e.data),.f (fG e.defs)]] H K)
  (K (.f (.v (.bool b))) H):=⟨fun h=>by rw [←hb.h] at h;exact a0C (y0c e hf.h.1 hf.h.2 hn.h) rfl rfl rfl h⟩
theorem h0M (s:S12)(e:Ev):(a0g s e).2.nodes=s.nodes:=by
 unfold a0g armL c0R
 split
 ·split
  ·rfl
  ·split<;>rfl
 ·split
  ·rfl
  ·split<;>rfl
theorem v0U {a b:Nat}{s:S12}{H:List Row}(h1:H[a]?=some (rN s.nodes))(h2:H[b]?=some (rT s.tms)):Vw H (.ag (stKT a b s)) (stD s) :=
 .ags (.cons .f (.cons .f (.cons .f (.cons .f (.cons .f (.cons .f (.cons (.sl h1 (fun e=>by rw [List.eq_nil_of_length_eq_zero e];try rfl)) (.cons (.sl h2 (fun e=>by rw [List.eq_nil_of_length_eq_zero e];try rfl)) (.cons .f .nil)))))))))
def stKS (a b:Nat)(s:S12):List D:=[D.int s.id,D.int s.ver,D.int s.time,D.int s.closed,D.bool s.cancel,.f (fG s.defs),.sl a 0 s.nodes.length,.f (fTm s.tms),.sl b 0 s.sgs.length]
theorem w0A {a b:Nat}{s:S12}{H:List Row}(h1:H[a]?=some (rN s.nodes))(h2:H[b]?=some (rS s.sgs)):Vw H (.ag (stKS a b s)) (stD s) :=
 .ags (.cons .f (.cons .f (.cons .f (.cons .f (.cons .f (.cons .f (.cons (.sl h1 (fun e=>by rw [List.eq_nil_of_length_eq_zero e];try rfl)) (.cons .f (.cons (.sl h2 (fun e=>by rw [List.eq_nil_of_length_eq_zero e];try rfl)) .nil)))))))))
theorem f1g {a b:Prop}[Decidable a][Decidable b](h:a↔b):¬ decide a≠decide b:=by
 simp only [ne_eq,Decidable.not_not];exact decide_eq_decide.2 h
def a0d (s:S12)(e:Ev):Int × S12 :=
 if e.ty=1 then (if a0t e.defs≠0 then (1,s) else (0,{ s with defs:=e.defs,nodes:=List.replicate e.defs.length nd0 }))
 else if e.ty=2∨e.ty=3∨e.ty=4 then b0a s e
 else if e.ty=5∨e.ty=6 then a0g s e
 else if e.ty=7 then a0c s e else if e.ty=8 then a0o s
 else if a0p s e.ty=true then (0,{ s with closed:=e.ty }) else (4,s)
def a0H (s:S12)(e:Ev):Int × S12 :=
 if b0K e=false∨e.id≠s.id+1∨e.ver<s.ver∨e.time<s.time then (1,s0)
 else if s.closed≠0 then (12,s0)
 else if decide (s.id=0)≠decide (e.ty=1) then (4,s0)
 else if (a0d s e).1≠0 then ((a0d s e).1,s0)
 else (0,{ (a0d s e).2 with id:=e.id,ver:=e.ver,time:=e.time })
set_option maxRecDepth 100000 in
theorem u0A (s:S12)(e:Ev)(hs:FitA s)(hp:Pos s.defs)(hnd:s.nodes.length=s.defs.length)(hd:e.data.length≤1000000)(hnm:e.name.length≤1000000)(hf:Fit e.defs)(hi:0≤s.id∧s.id<1000000000)(hz0:s.nodes.length=0↔s.id=0) :
  Con Tryz.prog 66 [stD s,evD e] [] fun r H'=>r = .tp [stD (a0H s e).2,D.int (a0H s e).1]∧H'=[]:=by
 obtain ⟨id,ver,time,closed,cancel,defs,nodes,tms,sgs⟩:=s
 suffices hh:∀ Q:D→List Row→Prop,(∀ r H',r = .tp [stD (a0H ⟨id,ver,time,closed,cancel,defs,nodes,tms,sgs⟩ e).2,D.int (a0H ⟨id,ver,time,closed,cancel,defs,nodes,tms,sgs⟩ e).1]→H'=[]→Q r H')→Con Tryz.prog 66 [stD ⟨id,ver,time,closed,cancel,defs,nodes,tms,sgs⟩,evD e] [] Q from hh _ fun _ _ h1 h2=>⟨h1,h2⟩
 intro Q hQ
 haveI:Small e.defs:=⟨⟨fun d hd=>hf.2 d hd,by have:=hf.1;omega⟩⟩
 haveI:Kn (e.name.length≤1000000):=⟨hnm⟩
 haveI:Kn (Fit e.defs):=⟨hf⟩
 obtain ⟨hi1,hi2⟩:=hi
 have hnl:=hs.fit.nodes
 have htl:=hs.fit.tms
 have hsl:=hs.fit.sgs
 dsimp only at hi1 hi2 hp hnd hnl htl hsl hz0
 refine Con.walk good r0V (by simp) ?_
 unfold j0z
 simp only [a0J,stD,evD]
 cases hre:b0K e
 ·haveI:Vb (b0K e) _:=⟨hre⟩
  have hb:a0H ⟨id,ver,time,closed,cancel,defs,nodes,tms,sgs⟩ e=(1,s0):=by unfold a0H;rw [if_pos (.inl hre)]
  rw [hb] at hQ
  repeat' (with_reducible first|refine Wx.h ?_|refine Wb.h fun K hK=>?_|(refine hK _ ?_;clear hK K)|((fail_if_success refine Wz.h ?_);simp (disch:=omega) only [↓LD,LA,a0A,seval,LSt]))
  exact RetS.still (ds:=[.ag [jI,jI,jI,jI,jF,jN,jN,jN,jN],D.int 1]) (by kernel_rfl) (by kernel_rfl) (.tps (.cons (.ags (.cons .f (.cons .f (.cons .f (.cons .f (.cons .f (.cons .nil (.cons .nil (.cons .nil (.cons .nil .nil)))))))))) (.cons .f .nil))) (hQ _ _ rfl rfl)
 haveI:Vb (b0K e) _:=⟨hre⟩
 by_cases h1:e.id≠id+1∨e.ver<ver∨e.time<time
 ·have hb:a0H ⟨id,ver,time,closed,cancel,defs,nodes,tms,sgs⟩ e=(1,s0):=by unfold a0H;rw [if_pos (.inr h1)]
  rw [hb] at hQ
  repeat' (with_reducible first|refine Wx.h ?_|refine Wb.h fun K hK=>?_|(refine hK _ ?_;clear hK K)|refine Wq.h ?_ ?_<;>intro h<;>try (exfalso;omega)|((fail_if_success refine Wz.h ?_);simp (disch:=omega) only [↓LD,LA,a0A,seval,LSt]))
  all_goals exact RetS.still (ds:=[.ag [jI,jI,jI,jI,jF,jN,jN,jN,jN],D.int 1]) (by kernel_rfl) (by kernel_rfl) (.tps (.cons (.ags (.cons .f (.cons .f (.cons .f (.cons .f (.cons .f (.cons .nil (.cons .nil (.cons .nil (.cons .nil .nil)))))))))) (.cons .f .nil))) (hQ _ _ rfl rfl)
 have hlo:¬ (b0K e=false∨e.id≠id+1∨e.ver<ver∨e.time<time):=by rw [hre];simp only [Bool.true_eq_false,false_or];exact h1
 by_cases hc:closed=0
 rotate_left
 ·have hb:a0H ⟨id,ver,time,closed,cancel,defs,nodes,tms,sgs⟩ e=(12,s0):=by unfold a0H;rw [if_neg hlo,if_pos hc]
  rw [hb] at hQ
  repeat' (with_reducible first|refine Wx.h ?_|refine Wb.h fun K hK=>?_|(refine hK _ ?_;clear hK K)|(refine wF ?_ ?_;assumption)|refine Wq.h ?_ ?_<;>intro h<;>try (exfalso;omega)|((fail_if_success refine Wz.h ?_);simp (disch:=omega) only [↓LD,LA,a0A,seval,LSt]))
  all_goals exact RetS.still (ds:=[.ag [jI,jI,jI,jI,jF,jN,jN,jN,jN],D.int 12]) (by kernel_rfl) (by kernel_rfl) (.tps (.cons (.ags (.cons .f (.cons .f (.cons .f (.cons .f (.cons .f (.cons .nil (.cons .nil (.cons .nil (.cons .nil .nil)))))))))) (.cons .f .nil))) (hQ _ _ rfl rfl)
 have hc':¬ (closed≠0):=fun h=>h hc
 by_cases hid:id=0
 ·have hz:nodes.length=0:=hz0.2 hid
  by_cases ht:e.ty=1
  ·have hT:a0H ⟨id,ver,time,closed,cancel,defs,nodes,tms,sgs⟩ e=if a0t e.defs≠0 then (1,s0) else (0,⟨e.id,e.ver,e.time,closed,cancel,e.defs,List.replicate e.defs.length nd0,tms,sgs⟩):=by
    unfold a0H
    rw [if_neg hlo,if_neg hc',if_neg (f1g (iff_of_true hid ht))]
    unfold a0d
    rw [if_pos ht]
    by_cases hk:a0t e.defs=0
    ·rw [if_neg (fun h:a0t e.defs≠0=>h hk),if_neg (by simp),if_neg (fun h:a0t e.defs≠0=>h hk)]
    ·rw [if_pos hk,if_pos (by simp),if_pos hk]
   rw [hT] at hQ
   clear hT
   by_cases hk:a0t e.defs=0
   ·rw [if_neg (fun h=>h hk)] at hQ
    have hf1:=hf.1
    repeat' (with_reducible first|refine Wa.h ?_|refine Ws.h ?_|refine Wb.h fun K hK=>?_|(refine hK _ ?_;clear hK K)|(refine wT ?_ ?_;assumption)|refine Wq.h ?_ ?_<;>intro h<;>try (exfalso;omega)|((fail_if_success refine Wz.h ?_);first|simp (disch:=omega) only [↓LD,LA,a0A,seval,LSt,a0k]|(refine And.intro ?_ ?_;omega)|fail))
    refine HS.view (View.wkd 5 ((List.replicate e.defs.length nd0).flatMap Nn.cs) rfl (by rw [List.length_map,List.length_range,a0k,List.length_replicate]) (h1R _)) ?_
    repeat' (with_reducible first|refine Wx.h ?_|fail)
    have hrl:(List.replicate e.defs.length nd0).length=e.defs.length:=by simp
    generalize List.replicate e.defs.length nd0=ns at hQ hrl ⊢
    refine RetS.still (ds:=[.ag (stK 5 ⟨e.id,e.ver,e.time,closed,cancel,e.defs,ns,tms,sgs⟩),D.int 0]) ?_ (by kernel_rfl) (.tps (.cons (b0w rfl) (.cons .f .nil))) (hQ _ _ rfl rfl)
    rw [stK,hrl]
    kernel_rfl
   ·rw [if_pos hk] at hQ
    repeat' (with_reducible first|refine Wx.h ?_|refine Wb.h fun K hK=>?_|(refine hK _ ?_;clear hK K)|(refine wT ?_ ?_;assumption)|(refine wF ?_ ?_;assumption)|refine Wq.h ?_ ?_<;>intro h<;>try (exfalso;omega)|((fail_if_success refine Wz.h ?_);simp (disch:=omega) only [↓LD,LA,a0A,seval,LSt,a0k]))
    exact RetS.still (ds:=[.ag [jI,jI,jI,jI,jF,jN,jN,jN,jN],D.int 1]) (by kernel_rfl) (by kernel_rfl) (.tps (.cons (.ags (.cons .f (.cons .f (.cons .f (.cons .f (.cons .f (.cons .nil (.cons .nil (.cons .nil (.cons .nil .nil)))))))))) (.cons .f .nil))) (hQ _ _ rfl rfl)
  ·have hb:a0H ⟨id,ver,time,closed,cancel,defs,nodes,tms,sgs⟩ e=(4,s0):=by
    unfold a0H;rw [if_neg hlo,if_neg hc',if_pos (by simp [hid,ht])]
   rw [hb] at hQ
   repeat' (with_reducible first|refine Wx.h ?_|refine Wb.h fun K hK=>?_|(refine hK _ ?_;clear hK K)|(refine wT ?_ ?_;assumption)|(refine wF ?_ ?_;assumption)|refine Wq.h ?_ ?_<;>intro h<;>try (exfalso;omega)|((fail_if_success refine Wz.h ?_);simp (disch:=omega) only [↓LD,LA,a0A,seval,LSt,a0k]))
   exact RetS.still (ds:=[.ag [jI,jI,jI,jI,jF,jN,jN,jN,jN],D.int 4]) (by kernel_rfl) (by kernel_rfl) (.tps (.cons (.ags (.cons .f (.cons .f (.cons .f (.cons .f (.cons .f (.cons .nil (.cons .nil (.cons .nil (.cons .nil .nil)))))))))) (.cons .f .nil))) (hQ _ _ rfl rfl)
 have hz:¬ nodes.length=0:=fun h=>hid (hz0.1 h)
 by_cases ht:e.ty=1
 ·have hb:a0H ⟨id,ver,time,closed,cancel,defs,nodes,tms,sgs⟩ e=(4,s0):=by
   unfold a0H;rw [if_neg hlo,if_neg hc',if_pos (by simp [hid,ht])]
  rw [hb] at hQ
  repeat' (with_reducible first|refine Wx.h ?_|refine Wb.h fun K hK=>?_|(refine hK _ ?_;clear hK K)|(refine wT ?_ ?_;assumption)|(refine wF ?_ ?_;assumption)|refine Wq.h ?_ ?_<;>intro h<;>try (exfalso;omega)|((fail_if_success refine Wz.h ?_);simp (disch:=omega) only [↓LD,LA,a0A,seval,LSt,a0k]))
  exact RetS.still (ds:=[.ag [jI,jI,jI,jI,jF,jN,jN,jN,jN],D.int 4]) (by kernel_rfl) (by kernel_rfl) (.tps (.cons (.ags (.cons .f (.cons .f (.cons .f (.cons .f (.cons .f (.cons .nil (.cons .nil (.cons .nil (.cons .nil .nil)))))))))) (.cons .f .nil))) (hQ _ _ rfl rfl)
 have hT:a0H ⟨id,ver,time,closed,cancel,defs,nodes,tms,sgs⟩ e=if (a0d ⟨id,ver,time,closed,cancel,defs,nodes,tms,sgs⟩ e).1≠0 then ((a0d ⟨id,ver,time,closed,cancel,defs,nodes,tms,sgs⟩ e).1,s0) else (0,{ (a0d ⟨id,ver,time,closed,cancel,defs,nodes,tms,sgs⟩ e).2 with id:=e.id,ver:=e.ver,time:=e.time }):=by
  unfold a0H
  rw [if_neg hlo,if_neg hc',if_neg (f1g (iff_of_false hid ht))]
 rw [hT] at hQ
 clear hT
 repeat' (with_reducible first|refine Wx.h ?_|refine We.h fun K hK=>?_|(refine hK _ _ _ _ ?_;clear hK K;try clear hM M)|refine Wb.h fun K hK=>?_|(refine hK _ ?_;clear hK K)|(refine wT ?_ ?_;assumption)|(refine wF ?_ ?_;assumption)|(refine Wy.h ?_ ?_;kernel_rfl)|refine Wq.h ?_ ?_<;>intro h<;>try (exfalso;omega)|refine Wu.h ?_ ?_<;>intro h<;>try simp only [h]|((fail_if_success refine Wz.h ?_);first|simp (disch:=omega) only [↓LD,LA,a0A,seval,LSt,a0k,u0O]|(refine And.intro ?_ ?_;omega)|fail))
 ·have hb:a0d ⟨id,ver,time,closed,cancel,defs,nodes,tms,sgs⟩ e=b0a ⟨id,ver,time,closed,cancel,defs,nodes,tms,sgs⟩ e:=by unfold a0d;rw [if_neg ht,if_pos (show e.ty=2∨e.ty=3∨e.ty=4 by omega)]
  rw [hb] at hQ
  refine a0D (c0i ⟨id,ver,time,closed,cancel,defs,nodes,tms,sgs⟩ e ⟨(fitE hre hd hf).time,hs.le,hs.tr⟩ (fitE hre hd hf).node hs.defs hp hnl hnd) [0,5] (by kernel_rfl) rfl rfl ?_
  rintro _ _ ⟨rfl,rfl⟩
  generalize b0a ⟨id,ver,time,closed,cancel,defs,nodes,tms,sgs⟩ e=p at hQ ⊢
  obtain ⟨v,s'⟩:=p
  dsimp only at hQ ⊢
  simp (disch:=omega) only [↓LD,LA,a0A,seval,ren,List.getElem?_nil,stK,rN]
  by_cases hv:v=0
  ·subst hv
   repeat' (with_reducible first|refine Wx.h ?_|refine Wb.h fun K hK=>?_|(refine hK _ ?_;clear hK K)|((fail_if_success refine Wz.h ?_);simp (disch:=omega) only [↓LD,LA,a0A,seval]))
   rw [if_neg (by simp)] at hQ
   exact RetS.still (ds:=[.ag (stK 5 ⟨e.id,e.ver,e.time,s'.closed,s'.cancel,s'.defs,s'.nodes,s'.tms,s'.sgs⟩),D.int 0]) (by kernel_rfl) (by kernel_rfl) (.tps (.cons (b0w rfl) (.cons .f .nil))) (hQ _ _ rfl rfl)
  ·rw [if_pos hv] at hQ
   repeat' (with_reducible first|refine Wx.h ?_|refine Wb.h fun K hK=>?_|(refine hK _ ?_;clear hK K)|(refine wF ?_ ?_;assumption)|((fail_if_success refine Wz.h ?_);simp (disch:=omega) only [↓LD,LA,a0A,seval]))
   exact RetS.still (ds:=[.ag [jI,jI,jI,jI,jF,jN,jN,jN,jN],D.int v]) (by kernel_rfl) (by kernel_rfl) (.tps (.cons (.ags (.cons .f (.cons .f (.cons .f (.cons .f (.cons .f (.cons .nil (.cons .nil (.cons .nil (.cons .nil .nil)))))))))) (.cons .f .nil))) (hQ _ _ rfl rfl)
 ·have hb:a0d ⟨id,ver,time,closed,cancel,defs,nodes,tms,sgs⟩ e=b0a ⟨id,ver,time,closed,cancel,defs,nodes,tms,sgs⟩ e:=by unfold a0d;rw [if_neg ht,if_pos (show e.ty=2∨e.ty=3∨e.ty=4 by omega)]
  rw [hb] at hQ
  refine a0D (c0i ⟨id,ver,time,closed,cancel,defs,nodes,tms,sgs⟩ e ⟨(fitE hre hd hf).time,hs.le,hs.tr⟩ (fitE hre hd hf).node hs.defs hp hnl hnd) [0,5] (by kernel_rfl) rfl rfl ?_
  rintro _ _ ⟨rfl,rfl⟩
  generalize b0a ⟨id,ver,time,closed,cancel,defs,nodes,tms,sgs⟩ e=p at hQ ⊢
  obtain ⟨v,s'⟩:=p
  dsimp only at hQ ⊢
  simp (disch:=omega) only [↓LD,LA,a0A,seval,ren,List.getElem?_nil,stK,rN]
  by_cases hv:v=0
  ·subst hv
   repeat' (with_reducible first|refine Wx.h ?_|refine Wb.h fun K hK=>?_|(refine hK _ ?_;clear hK K)|((fail_if_success refine Wz.h ?_);simp (disch:=omega) only [↓LD,LA,a0A,seval]))
   rw [if_neg (by simp)] at hQ
   exact RetS.still (ds:=[.ag (stK 5 ⟨e.id,e.ver,e.time,s'.closed,s'.cancel,s'.defs,s'.nodes,s'.tms,s'.sgs⟩),D.int 0]) (by kernel_rfl) (by kernel_rfl) (.tps (.cons (b0w rfl) (.cons .f .nil))) (hQ _ _ rfl rfl)
  ·rw [if_pos hv] at hQ
   repeat' (with_reducible first|refine Wx.h ?_|refine Wb.h fun K hK=>?_|(refine hK _ ?_;clear hK K)|(refine wF ?_ ?_;assumption)|((fail_if_success refine Wz.h ?_);simp (disch:=omega) only [↓LD,LA,a0A,seval]))
   exact RetS.still (ds:=[.ag [jI,jI,jI,jI,jF,jN,jN,jN,jN],D.int v]) (by kernel_rfl) (by kernel_rfl) (.tps (.cons (.ags (.cons .f (.cons .f (.cons .f (.cons .f (.cons .f (.cons .nil (.cons .nil (.cons .nil (.cons .nil .nil)))))))))) (.cons .f .nil))) (hQ _ _ rfl rfl)
 ·have hb:a0d ⟨id,ver,time,closed,cancel,defs,nodes,tms,sgs⟩ e=b0a ⟨id,ver,time,closed,cancel,defs,nodes,tms,sgs⟩ e:=by unfold a0d;rw [if_neg ht,if_pos (show e.ty=2∨e.ty=3∨e.ty=4 by omega)]
  rw [hb] at hQ
  refine a0D (c0i ⟨id,ver,time,closed,cancel,defs,nodes,tms,sgs⟩ e ⟨(fitE hre hd hf).time,hs.le,hs.tr⟩ (fitE hre hd hf).node hs.defs hp hnl hnd) [0,5] (by kernel_rfl) rfl rfl ?_
  rintro _ _ ⟨rfl,rfl⟩
  generalize b0a ⟨id,ver,time,closed,cancel,defs,nodes,tms,sgs⟩ e=p at hQ ⊢
  obtain ⟨v,s'⟩:=p
  dsimp only at hQ ⊢
  simp (disch:=omega) only [↓LD,LA,a0A,seval,ren,List.getElem?_nil,stK,rN]
  by_cases hv:v=0
  ·subst hv
   repeat' (with_reducible first|refine Wx.h ?_|refine Wb.h fun K hK=>?_|(refine hK _ ?_;clear hK K)|((fail_if_success refine Wz.h ?_);simp (disch:=omega) only [↓LD,LA,a0A,seval]))
   rw [if_neg (by simp)] at hQ
   exact RetS.still (ds:=[.ag (stK 5 ⟨e.id,e.ver,e.time,s'.closed,s'.cancel,s'.defs,s'.nodes,s'.tms,s'.sgs⟩),D.int 0]) (by kernel_rfl) (by kernel_rfl) (.tps (.cons (b0w rfl) (.cons .f .nil))) (hQ _ _ rfl rfl)
  ·rw [if_pos hv] at hQ
   repeat' (with_reducible first|refine Wx.h ?_|refine Wb.h fun K hK=>?_|(refine hK _ ?_;clear hK K)|(refine wF ?_ ?_;assumption)|((fail_if_success refine Wz.h ?_);simp (disch:=omega) only [↓LD,LA,a0A,seval]))
   exact RetS.still (ds:=[.ag [jI,jI,jI,jI,jF,jN,jN,jN,jN],D.int v]) (by kernel_rfl) (by kernel_rfl) (.tps (.cons (.ags (.cons .f (.cons .f (.cons .f (.cons .f (.cons .f (.cons .nil (.cons .nil (.cons .nil (.cons .nil .nil)))))))))) (.cons .f .nil))) (hQ _ _ rfl rfl)
 ·have hb:a0d ⟨id,ver,time,closed,cancel,defs,nodes,tms,sgs⟩ e=a0g ⟨id,ver,time,closed,cancel,defs,nodes,tms,sgs⟩ e:=by unfold a0d;rw [if_neg ht,if_neg (show ¬ (e.ty=2∨e.ty=3∨e.ty=4) by omega),if_pos (show e.ty=5∨e.ty=6 by omega)]
  rw [hb] at hQ
  have hnn:=h0M ⟨id,ver,time,closed,cancel,defs,nodes,tms,sgs⟩ e
  refine a0D (d0q ⟨id,ver,time,closed,cancel,defs,nodes,tms,sgs⟩ e htl (fitE hre hd hf).time (fitE hre hd hf).n) [0,5] (by kernel_rfl) rfl rfl ?_
  generalize a0g ⟨id,ver,time,closed,cancel,defs,nodes,tms,sgs⟩ e=p at hQ hnn ⊢
  obtain ⟨v,s'⟩:=p
  dsimp only at hQ hnn ⊢
  rintro _ _ ⟨rfl,(⟨hv,rfl⟩|⟨hv,rfl⟩)⟩
  ·rw [if_pos hv] at hQ
   simp (disch:=omega) only [↓LD,LA,a0A,seval,ren,List.getElem?_nil,stK,rN]
   repeat' (with_reducible first|refine Wx.h ?_|refine Wb.h fun K hK=>?_|(refine hK _ ?_;clear hK K)|(refine wF ?_ ?_;assumption)|((fail_if_success refine Wz.h ?_);simp (disch:=omega) only [↓LD,LA,a0A,seval]))
   exact RetS.still (ds:=[.ag [jI,jI,jI,jI,jF,jN,jN,jN,jN],D.int v]) (by kernel_rfl) (by kernel_rfl) (.tps (.cons (.ags (.cons .f (.cons .f (.cons .f (.cons .f (.cons .f (.cons .nil (.cons .nil (.cons .nil (.cons .nil .nil)))))))))) (.cons .f .nil))) (hQ _ _ rfl rfl)
  ·subst hv
   rw [if_neg (by simp)] at hQ
   simp (disch:=omega) only [↓LD,LA,a0A,seval,ren,List.getElem?_nil,stKT,rN,rT]
   repeat' (with_reducible first|refine Wx.h ?_|refine Wb.h fun K hK=>?_|(refine hK _ ?_;clear hK K)|((fail_if_success refine Wz.h ?_);simp (disch:=omega) only [↓LD,LA,a0A,seval]))
   exact RetS.still (ds:=[.ag (stKT 5 6 ⟨e.id,e.ver,e.time,s'.closed,s'.cancel,s'.defs,s'.nodes,s'.tms,s'.sgs⟩),D.int 0]) (by kernel_rfl) (by kernel_rfl) (.tps (.cons (v0U (by dsimp only;rw [hnn];try rfl) rfl) (.cons .f .nil))) (hQ _ _ rfl rfl)
 ·have hb:a0d ⟨id,ver,time,closed,cancel,defs,nodes,tms,sgs⟩ e=a0g ⟨id,ver,time,closed,cancel,defs,nodes,tms,sgs⟩ e:=by unfold a0d;rw [if_neg ht,if_neg (show ¬ (e.ty=2∨e.ty=3∨e.ty=4) by omega),if_pos (show e.ty=5∨e.ty=6 by omega)]
  rw [hb] at hQ
  have hnn:=h0M ⟨id,ver,time,closed,cancel,defs,nodes,tms,sgs⟩ e
  refine a0D (d0q ⟨id,ver,time,closed,cancel,defs,nodes,tms,sgs⟩ e htl (fitE hre hd hf).time (fitE hre hd hf).n) [0,5] (by kernel_rfl) rfl rfl ?_
  generalize a0g ⟨id,ver,time,closed,cancel,defs,nodes,tms,sgs⟩ e=p at hQ hnn ⊢
  obtain ⟨v,s'⟩:=p
  dsimp only at hQ hnn ⊢
  rintro _ _ ⟨rfl,(⟨hv,rfl⟩|⟨hv,rfl⟩)⟩
  ·rw [if_pos hv] at hQ
   simp (disch:=omega) only [↓LD,LA,a0A,seval,ren,List.getElem?_nil,stK,rN]
   repeat' (with_reducible first|refine Wx.h ?_|refine Wb.h fun K hK=>?_|(refine hK _ ?_;clear hK K)|(refine wF ?_ ?_;assumption)|((fail_if_success refine Wz.h ?_);simp (disch:=omega) only [↓LD,LA,a0A,seval]))
   exact RetS.still (ds:=[.ag [jI,jI,jI,jI,jF,jN,jN,jN,jN],D.int v]) (by kernel_rfl) (by kernel_rfl) (.tps (.cons (.ags (.cons .f (.cons .f (.cons .f (.cons .f (.cons .f (.cons .nil (.cons .nil (.cons .nil (.cons .nil .nil)))))))))) (.cons .f .nil))) (hQ _ _ rfl rfl)
  ·subst hv
   rw [if_neg (by simp)] at hQ
   simp (disch:=omega) only [↓LD,LA,a0A,seval,ren,List.getElem?_nil,stKT,rN,rT]
   repeat' (with_reducible first|refine Wx.h ?_|refine Wb.h fun K hK=>?_|(refine hK _ ?_;clear hK K)|((fail_if_success refine Wz.h ?_);simp (disch:=omega) only [↓LD,LA,a0A,seval]))
   exact RetS.still (ds:=[.ag (stKT 5 6 ⟨e.id,e.ver,e.time,s'.closed,s'.cancel,s'.defs,s'.nodes,s'.tms,s'.sgs⟩),D.int 0]) (by kernel_rfl) (by kernel_rfl) (.tps (.cons (v0U (by dsimp only;rw [hnn];try rfl) rfl) (.cons .f .nil))) (hQ _ _ rfl rfl)
 ·have hb:a0d ⟨id,ver,time,closed,cancel,defs,nodes,tms,sgs⟩ e=(13,⟨id,ver,time,closed,cancel,defs,nodes,tms,sgs⟩):=by simp [a0d,a0c,a0o,a0p, *]
  rw [hb] at hQ
  rw [if_pos (by simp)] at hQ
  exact RetS.still (ds:=[.ag [jI,jI,jI,jI,jF,jN,jN,jN,jN],D.int 13]) (by kernel_rfl) (by kernel_rfl) (.tps (.cons (.ags (.cons .f (.cons .f (.cons .f (.cons .f (.cons .f (.cons .nil (.cons .nil (.cons .nil (.cons .nil .nil)))))))))) (.cons .f .nil))) (hQ _ _ rfl rfl)
 ·have hz0:sgs.length=0:=by assumption
  obtain rfl:=List.eq_nil_of_length_eq_zero hz0
  have hb:a0d ⟨id,ver,time,closed,cancel,defs,nodes,tms,[]⟩ e=(0,⟨id,ver,time,closed,cancel,defs,nodes,tms,[]++[(⟨e.name,e.id,e.data⟩:Sg)]⟩):=by simp [a0d,a0c, *]
  rw [hb,if_neg (by simp)] at hQ
  exact RetS.still (ds:=[.ag (stKS 5 8 ⟨e.id,e.ver,e.time,closed,cancel,defs,nodes,tms,[]++[(⟨e.name,e.id,e.data⟩:Sg)]⟩),D.int 0]) (by kernel_rfl) (by kernel_rfl) (.tps (.cons (w0A rfl rfl) (.cons .f .nil))) (hQ _ _ rfl rfl)
 ·have hb:a0d ⟨id,ver,time,closed,cancel,defs,nodes,tms,sgs⟩ e=(0,⟨id,ver,time,closed,cancel,defs,nodes,tms,sgs++[(⟨e.name,e.id,e.data⟩:Sg)]⟩):=by simp [a0d,a0c, *]
  rw [hb,if_neg (by simp)] at hQ
  have e1:sgs.flatMap Sg.cs++[F.v (.string (BB e.name)),.v (.int .i64 e.id),fY e.data]=(sgs++[(⟨e.name,e.id,e.data⟩:Sg)]).flatMap Sg.cs:=by simp [Sg.cs]
  have e2:sgs.length+1=(sgs++[(⟨e.name,e.id,e.data⟩:Sg)]).length:=by simp
  rw [e1,e2]
  exact RetS.still (ds:=[.ag (stKS 5 9 ⟨e.id,e.ver,e.time,closed,cancel,defs,nodes,tms,sgs++[(⟨e.name,e.id,e.data⟩:Sg)]⟩),D.int 0]) (by kernel_rfl) (by kernel_rfl) (.tps (.cons (w0A rfl rfl) (.cons .f .nil))) (hQ _ _ rfl rfl)
 ·have hb:a0d ⟨id,ver,time,closed,cancel,defs,nodes,tms,sgs⟩ e=(4,⟨id,ver,time,closed,cancel,defs,nodes,tms,sgs⟩):=by simp [a0d,a0c,a0o,a0p, *]
  rw [hb] at hQ
  rw [if_pos (by simp)] at hQ
  exact RetS.still (ds:=[.ag [jI,jI,jI,jI,jF,jN,jN,jN,jN],D.int 4]) (by kernel_rfl) (by kernel_rfl) (.tps (.cons (.ags (.cons .f (.cons .f (.cons .f (.cons .f (.cons .f (.cons .nil (.cons .nil (.cons .nil (.cons .nil .nil)))))))))) (.cons .f .nil))) (hQ _ _ rfl rfl)
 ·have hb:a0d ⟨id,ver,time,closed,cancel,defs,nodes,tms,sgs⟩ e=(0,⟨id,ver,time,closed,true,defs,nodes,tms,sgs⟩):=by simp [a0d,a0c,a0o,a0p, *]
  rw [hb] at hQ
  rw [if_neg (by simp)] at hQ
  exact RetS.still (ds:=[.ag (stK 5 ⟨e.id,e.ver,e.time,closed,true,defs,nodes,tms,sgs⟩),D.int 0]) (by kernel_rfl) (by kernel_rfl) (.tps (.cons (b0w rfl) (.cons .f .nil))) (hQ _ _ rfl rfl)
 ·have hb:a0d ⟨id,ver,time,closed,cancel,defs,nodes,tms,sgs⟩ e=(0,⟨id,ver,time,e.ty,cancel,defs,nodes,tms,sgs⟩):=by simp [a0d,a0c,a0o,a0p, *]
  rw [hb] at hQ
  rw [if_neg (by simp)] at hQ
  exact RetS.still (ds:=[.ag (stK 5 ⟨e.id,e.ver,e.time,e.ty,cancel,defs,nodes,tms,sgs⟩),D.int 0]) (by kernel_rfl) (by kernel_rfl) (.tps (.cons (b0w rfl) (.cons .f .nil))) (hQ _ _ rfl rfl)
 ·have h6:¬ ((cntL nodes 2:Int)=defs.length):=by rw [←hnd];assumption
  have hb:a0d ⟨id,ver,time,closed,cancel,defs,nodes,tms,sgs⟩ e=(4,⟨id,ver,time,closed,cancel,defs,nodes,tms,sgs⟩):=by simp [a0d,a0c,a0o,a0p, *]
  rw [hb] at hQ
  rw [if_pos (by simp)] at hQ
  exact RetS.still (ds:=[.ag [jI,jI,jI,jI,jF,jN,jN,jN,jN],D.int 4]) (by kernel_rfl) (by kernel_rfl) (.tps (.cons (.ags (.cons .f (.cons .f (.cons .f (.cons .f (.cons .f (.cons .nil (.cons .nil (.cons .nil (.cons .nil .nil)))))))))) (.cons .f .nil))) (hQ _ _ rfl rfl)
 ·have h3:¬ (0<cntL nodes 3):=by omega
  have hb:a0d ⟨id,ver,time,closed,cancel,defs,nodes,tms,sgs⟩ e=(4,⟨id,ver,time,closed,cancel,defs,nodes,tms,sgs⟩):=by simp [a0d,a0c,a0o,a0p, *]
  rw [hb] at hQ
  rw [if_pos (by simp)] at hQ
  exact RetS.still (ds:=[.ag [jI,jI,jI,jI,jF,jN,jN,jN,jN],D.int 4]) (by kernel_rfl) (by kernel_rfl) (.tps (.cons (.ags (.cons .f (.cons .f (.cons .f (.cons .f (.cons .f (.cons .nil (.cons .nil (.cons .nil (.cons .nil .nil)))))))))) (.cons .f .nil))) (hQ _ _ rfl rfl)
 ·have h3:0<cntL nodes 3:=by omega
  have hb:a0d ⟨id,ver,time,closed,cancel,defs,nodes,tms,sgs⟩ e=(0,⟨id,ver,time,e.ty,cancel,defs,nodes,tms,sgs⟩):=by simp [a0d,a0c,a0o,a0p, *]
  rw [hb] at hQ
  rw [if_neg (by simp)] at hQ
  exact RetS.still (ds:=[.ag (stK 5 ⟨e.id,e.ver,e.time,e.ty,cancel,defs,nodes,tms,sgs⟩),D.int 0]) (by kernel_rfl) (by kernel_rfl) (.tps (.cons (b0w rfl) (.cons .f .nil))) (hQ _ _ rfl rfl)
 ·have h4:cancel=false:=by simpa using (show (!cancel)=true by assumption)
  have hb:a0d ⟨id,ver,time,closed,cancel,defs,nodes,tms,sgs⟩ e=(4,⟨id,ver,time,closed,cancel,defs,nodes,tms,sgs⟩):=by simp [a0d,a0c,a0o,a0p, *]
  rw [hb] at hQ
  rw [if_pos (by simp)] at hQ
  exact RetS.still (ds:=[.ag [jI,jI,jI,jI,jF,jN,jN,jN,jN],D.int 4]) (by kernel_rfl) (by kernel_rfl) (.tps (.cons (.ags (.cons .f (.cons .f (.cons .f (.cons .f (.cons .f (.cons .nil (.cons .nil (.cons .nil (.cons .nil .nil)))))))))) (.cons .f .nil))) (hQ _ _ rfl rfl)
 ·have h4:cancel=true:=by simpa using (show (!cancel)=false by assumption)
  have h5:¬ (cntL nodes 1=0):=by omega
  have hb:a0d ⟨id,ver,time,closed,cancel,defs,nodes,tms,sgs⟩ e=(4,⟨id,ver,time,closed,cancel,defs,nodes,tms,sgs⟩):=by simp [a0d,a0c,a0o,a0p, *]
  rw [hb] at hQ
  rw [if_pos (by simp)] at hQ
  exact RetS.still (ds:=[.ag [jI,jI,jI,jI,jF,jN,jN,jN,jN],D.int 4]) (by kernel_rfl) (by kernel_rfl) (.tps (.cons (.ags (.cons .f (.cons .f (.cons .f (.cons .f (.cons .f (.cons .nil (.cons .nil (.cons .nil (.cons .nil .nil)))))))))) (.cons .f .nil))) (hQ _ _ rfl rfl)
 ·have h4:cancel=true:=by simpa using (show (!cancel)=false by assumption)
  have h5:cntL nodes 1=0:=by omega
  have hb:a0d ⟨id,ver,time,closed,cancel,defs,nodes,tms,sgs⟩ e=(0,⟨id,ver,time,e.ty,cancel,defs,nodes,tms,sgs⟩):=by simp [a0d,a0c,a0o,a0p, *]
  rw [hb] at hQ
  rw [if_neg (by simp)] at hQ
  exact RetS.still (ds:=[.ag (stK 5 ⟨e.id,e.ver,e.time,e.ty,cancel,defs,nodes,tms,sgs⟩),D.int 0]) (by kernel_rfl) (by kernel_rfl) (.tps (.cons (b0w rfl) (.cons .f .nil))) (hQ _ _ rfl rfl)
 ·have hb:a0d ⟨id,ver,time,closed,cancel,defs,nodes,tms,sgs⟩ e=(0,⟨id,ver,time,e.ty,cancel,defs,nodes,tms,sgs⟩):=by simp [a0d,a0c,a0o,a0p, *]
  rw [hb] at hQ
  rw [if_neg (by simp)] at hQ
  exact RetS.still (ds:=[.ag (stK 5 ⟨e.id,e.ver,e.time,e.ty,cancel,defs,nodes,tms,sgs⟩),D.int 0]) (by kernel_rfl) (by kernel_rfl) (.tps (.cons (b0w rfl) (.cons .f .nil))) (hQ _ _ rfl rfl)
structure Ok12 (s:S12):Prop where
 id:0≤s.id∧s.id≤200
 zero:s.id=0→s=s0
 defs:s.id≠0→a0t s.defs=0
 len:s.nodes.length=s.defs.length
 ndata:∀ x∈s.nodes,x.data.length≤40∧(x.st≠2→x.data=[])
 tr:∀ x∈s.nodes,0≤x.tr∧x.tr≤5
 tms:s.tms.length≤8
 sgs:(s.sgs.length:Int)≤s.id
 sdata:∀ x∈s.sgs,x.data.length≤40
 need:∀ d∈s.defs,d.ns.length<1000000
 tname:∀ x∈s.tms,x.name.length≤16
 sname:∀ x∈s.sgs,x.name.length≤16
theorem b1E:Ok12 s0:=by
 refine ⟨⟨by decide,by decide⟩,fun _=>rfl,fun h=>absurd rfl h,rfl,?_,?_,by decide,by decide,?_,?_,?_,?_⟩
 all_goals (intro x hx;simp [s0] at hx)
theorem Ok12.fitA {s:S12}(h:Ok12 s):FitA s∧Pos s.defs∧(s.nodes.length=0↔s.id=0):=by
 by_cases hi:s.id=0
 ·have:=h.zero hi
  subst this
  refine ⟨⟨⟨⟨fun d hd=>by simp [s0] at hd,by decide⟩,by decide,fun x hx=>by simp [s0] at hx,by decide,by decide,fun x hx=>by simp [s0] at hx⟩,⟨by decide,fun d hd=>by simp [s0] at hd⟩,fun d hd=>by simp [s0] at hd,fun x hx=>by simp [s0] at hx⟩,fun d hd=>by simp [s0] at hd,by decide⟩
 ·have hc:=h.defs hi
  obtain ⟨c1,c2,c3,c4⟩:=u0m hc
  have hid:=h.id
  have hsg:=h.sgs
  refine ⟨⟨⟨⟨fun d hd=>h.need d hd,by omega⟩,by have:=h.len;omega,fun x hx=>by have:=(h.ndata x hx).1;omega,by have:=h.tms;omega,by omega,fun x hx=>by have:=h.sdata x hx;omega⟩,⟨by omega,h.need⟩,fun d hd=>?_,fun x hx=>by have:=h.tr x hx;omega⟩,p0M hc,by have:=h.len;constructor<;>intro<;>omega⟩
  have:=List.all_eq_true.1 c3 d hd
  simp only [b0C,Bool.and_eq_true,decide_eq_true_eq] at this
  omega
theorem t0a {α:Type}{l:List α}{k:Nat}{y x:α}(h:x∈l.set k y):x∈l∨x=y:=by
 rcases List.mem_or_eq_of_mem_set h with h|h
 ·exact .inl h
 ·exact .inr h
theorem n0t {l:Bs}(h:e0W l=true):l.length≤16:=by
 simp only [e0W,Bool.and_eq_true,decide_eq_true_eq] at h;exact h.1.2
structure OkT (s t:S12)(i:Int):Prop where
 defs:a0t t.defs=0
 len:t.nodes.length=t.defs.length
 ndata:∀ x∈t.nodes,x.data.length≤40∧(x.st≠2→x.data=[])
 tr:∀ x∈t.nodes,0≤x.tr∧x.tr≤5
 tms:t.tms.length≤8
 sgs:(t.sgs.length:Int)≤i
 sdata:∀ x∈t.sgs,x.data.length≤40
 need:∀ d∈t.defs,d.ns.length<1000000
 tname:∀ x∈t.tms,x.name.length≤16
 sname:∀ x∈t.sgs,x.name.length≤16
theorem Ok12.same {s:S12}(h:Ok12 s)(hi:s.id≠0)(c:Int)(b:Bool):OkT s ⟨s.id,s.ver,s.time,c,b,s.defs,s.nodes,s.tms,s.sgs⟩ (s.id+1) :=
 ⟨h.defs hi,h.len,h.ndata,h.tr,h.tms,by have:=h.sgs;dsimp only;omega,h.sdata,h.need,h.tname,h.sname⟩
theorem Ok12.nodes {s:S12}(h:Ok12 s)(hi:s.id≠0){k:Nat}{y:Nn}(h1:y.data.length≤40∧(y.st≠2→y.data=[]))(h2:0≤y.tr∧y.tr≤5):OkT s { s with nodes:=s.nodes.set k y } (s.id+1):=by
 refine ⟨h.defs hi,by dsimp only;rw [List.length_set];exact h.len,?_,?_,h.tms,by have:=h.sgs;dsimp only;omega,h.sdata,h.need,h.tname,h.sname⟩
 ·intro x hx
  rcases t0a hx with hx|rfl
  ·exact h.ndata x hx
  ·exact h1
 ·intro x hx
  rcases t0a hx with hx|rfl
  ·exact h.tr x hx
  ·exact h2
theorem e1Q {s:S12}{e:Ev}(h:Ok12 s)(hr:b0K e=true)(hd:∀ d∈e.defs,d.ns.length<1000000)(hz:s.id=0↔e.ty=1)(ht:(a0d s e).1=0):OkT s (a0d s e).2 (s.id+1):=by
 have hE:=rightE_iff.1 hr
 have hdl:e.data.length≤40:=by
  rcases hE.2.2.2.2.2.2.2.1 with h|h
  ·rw [h];decide
  ·exact h.2
 unfold a0d at ht ⊢
 by_cases h1:e.ty=1
 ·rw [if_pos h1] at ht ⊢
  have hs0:=h.zero (hz.2 h1)
  subst hs0
  by_cases hc:a0t e.defs=0
  ·rw [if_neg (fun hh=>hh hc)] at ht ⊢
   refine ⟨hc,by simp,?_,?_,by simp [s0],by simp [s0],?_,hd,?_,?_⟩
   ·intro x hx
    obtain ⟨_,rfl⟩:=List.mem_replicate.1 hx
    exact ⟨by decide,fun _=>rfl⟩
   ·intro x hx
    obtain ⟨_,rfl⟩:=List.mem_replicate.1 hx
    exact ⟨by decide,by decide⟩
   all_goals (intro x hx;simp [s0] at hx)
  ·rw [if_pos hc] at ht;cases ht
 rw [if_neg h1] at ht ⊢
 have hi:s.id≠0:=fun hh=>h1 (hz.1 hh)
 by_cases h2:e.ty=2∨e.ty=3∨e.ty=4
 ·rw [if_pos h2] at ht ⊢
  have hn:=hE.2.2.2.2.1
  rw [if_pos h2] at hn
  unfold b0a at ht ⊢
  by_cases a1:(s.nodes.length:Int)≤e.node
  ·rw [if_pos a1] at ht;cases ht
  rw [if_neg a1] at ht ⊢
  have hm:=a0M (l:=s.nodes) (k:=e.node.toNat) (by omega)
  have hb1:=h.ndata _ hm
  have hb2:=h.tr _ hm
  by_cases a2:e.ty=2
  ·rw [if_pos a2] at ht ⊢
   by_cases a3:e.node ∉ a0e s∨e.n≠(gt s.nodes e.node.toNat).tr+1
   ·rw [if_pos a3] at ht;cases ht
   rw [if_neg a3]
   exact h.nodes hi ⟨by simp,by simp⟩ ⟨by dsimp only;omega,by dsimp only;omega⟩
  rw [if_neg a2] at ht ⊢
  by_cases a3:(gt s.nodes e.node.toNat).st≠1∨e.n≠(gt s.nodes e.node.toNat).tr
  ·rw [if_pos a3] at ht;cases ht
  rw [if_neg a3]
  have a4:(gt s.nodes e.node.toNat).st=1:=Decidable.not_not.1 fun hh=>a3 (.inl hh)
  have hb3:=hb1.2 (by omega)
  split
  ·exact h.nodes hi ⟨hdl,by simp⟩ hb2
  ·split
   ·exact h.nodes hi ⟨hb1.1,fun _=>hb3⟩ hb2
   ·exact h.nodes hi ⟨hb1.1,fun _=>hb3⟩ hb2
 rw [if_neg h2] at ht ⊢
 by_cases h3:e.ty=5∨e.ty=6
 ·rw [if_pos h3] at ht ⊢
  have hn:=hE.2.2.2.2.2.2.1
  rw [if_pos (by omega)] at hn
  unfold a0g at ht ⊢
  by_cases a1:e.ty=5
  ·rw [if_pos a1] at ht ⊢
   unfold armL at ht ⊢
   by_cases a2:0≤tmI s.tms e.name
   ·rw [if_pos a2] at ht;cases ht
   rw [if_neg a2] at ht ⊢
   by_cases a3:8≤s.tms.length
   ·rw [if_pos a3] at ht;cases ht
   rw [if_neg a3] at ht ⊢
   refine ⟨h.defs hi,h.len,h.ndata,h.tr,by simp;omega,by have:=h.sgs;dsimp only;omega,h.sdata,h.need,?_,h.sname⟩
   intro x hx
   rcases List.mem_append.1 hx with hx|hx
   ·exact h.tname x hx
   ·obtain rfl:=List.mem_singleton.1 hx;exact n0t hn
  ·rw [if_neg a1] at ht ⊢
   unfold c0R at ht ⊢
   by_cases a2:tmI s.tms e.name<0
   ·rw [if_pos a2] at ht;cases ht
   rw [if_neg a2] at ht ⊢
   by_cases a3:(gt s.tms (tmI s.tms e.name).toNat).fired=true∨e.time<(gt s.tms (tmI s.tms e.name).toNat).due
   ·rw [if_pos a3] at ht;cases ht
   rw [if_neg a3] at ht ⊢
   refine ⟨h.defs hi,h.len,h.ndata,h.tr,by simp;exact h.tms,by have:=h.sgs;dsimp only;omega,h.sdata,h.need,?_,h.sname⟩
   intro x hx
   rcases t0a hx with hx|rfl
   ·exact h.tname x hx
   ·have:=w0N s.tms e.name
    have hm:=a0M (l:=s.tms) (k:=(tmI s.tms e.name).toNat) (by omega)
    have hm2:=h.tname _ hm
    exact hm2
 rw [if_neg h3] at ht ⊢
 by_cases h4:e.ty=7
 ·rw [if_pos h4] at ht ⊢
  have hn:=hE.2.2.2.2.2.2.1
  rw [if_pos (by omega)] at hn
  unfold a0c at ht ⊢
  by_cases a1:c0s s.sgs e.name=true
  ·rw [if_pos a1] at ht;cases ht
  rw [if_neg a1] at ht ⊢
  refine ⟨h.defs hi,h.len,h.ndata,h.tr,h.tms,by have:=h.sgs;simp;omega,?_,h.need,h.tname,?_⟩
  all_goals
   intro x hx
   rcases List.mem_append.1 hx with hx|hx
  ·exact h.sdata x hx
  ·obtain rfl:=List.mem_singleton.1 hx;exact hdl
  ·exact h.sname x hx
  ·obtain rfl:=List.mem_singleton.1 hx;exact n0t hn
 rw [if_neg h4] at ht ⊢
 by_cases h5:e.ty=8
 ·rw [if_pos h5] at ht ⊢
  unfold a0o at ht ⊢
  by_cases a1:s.cancel=true
  ·rw [if_pos a1] at ht;cases ht
  rw [if_neg a1];exact h.same hi _ _
 rw [if_neg h5] at ht ⊢
 by_cases h6:a0p s e.ty=true
 ·rw [if_pos h6];exact h.same hi _ _
 ·rw [if_neg h6] at ht;cases ht
theorem b0d {s:S12}{e:Ev}(hr:(a0H s e).1=0):b0K e=true∧e.id=s.id+1∧s.ver≤e.ver∧s.time≤e.time∧s.closed=0∧(s.id=0↔e.ty=1)∧(a0d s e).1=0∧(a0H s e).2={ (a0d s e).2 with id:=e.id,ver:=e.ver,time:=e.time }:=by
 unfold a0H at hr ⊢
 by_cases a1:b0K e=false∨e.id≠s.id+1∨e.ver<s.ver∨e.time<s.time
 ·rw [if_pos a1] at hr;cases hr
 rw [if_neg a1] at hr ⊢
 by_cases a2:s.closed≠0
 ·rw [if_pos a2] at hr;cases hr
 rw [if_neg a2] at hr ⊢
 by_cases a3:decide (s.id=0)≠decide (e.ty=1)
 ·rw [if_pos a3] at hr;cases hr
 rw [if_neg a3] at hr ⊢
 by_cases a4:(a0d s e).1≠0
 ·rw [if_pos a4] at hr;exact absurd hr a4
 rw [if_neg a4]
 refine ⟨by simpa using fun h=>a1 (.inl h),by omega,by omega,by omega,by omega,?_,by omega,rfl⟩
 simp only [ne_eq,Decidable.not_not,decide_eq_decide] at a3
 exact a3
theorem d0N {s:S12}{e:Ev}(h:Ok12 s)(hd:∀ d∈e.defs,d.ns.length<1000000)(hr:(a0H s e).1=0):Ok12 (a0H s e).2:=by
 obtain ⟨a1,a2,a3,a4,a5,a6,a7,a8⟩:=b0d hr
 have ht:=e1Q h a1 hd a6 a7
 have hE:=rightE_iff.1 a1
 rw [a8]
 refine ⟨⟨by dsimp only;omega,by dsimp only;omega⟩,fun hh=>by dsimp only at hh;omega,fun _=>ht.defs,ht.len,ht.ndata,ht.tr,ht.tms,by have:=ht.sgs;dsimp only;omega,ht.sdata,ht.need,ht.tname,ht.sname⟩
theorem b1N {s:S12}(h:a0t s.defs=0):c0I s=a0e s:=by
 unfold c0I a0e b0s
 rw [if_pos h]
theorem q0M {s:S12}{k:Int}(h:k∈a0e s):k<s.nodes.length∧(gt s.nodes k.toNat).st=0∧s.closed=0∧s.cancel=false∧k∈rdy (a0n s.nodes) 0 s.defs:=by
 unfold a0e at h
 split at h
 ·simp at h
 ·rename_i hc
  obtain ⟨h1,h2⟩:=List.mem_filter.1 h
  simp only [wtB,Bool.and_eq_true,decide_eq_true_eq] at h2
  refine ⟨h2.1,h2.2,?_,?_,h1⟩
  ·exact Decidable.not_not.1 fun hh=>hc (.inl hh)
  ·cases hb:s.cancel with
   | false=>rfl
   | true=>exact absurd (.inr hb) hc
theorem h1F {s:S12}{e:Ev}(h:Ok12 s)(hr:b0K e=true)(hz:s.id=0↔e.ty=1):b0i s e=a0d s e:=by
 have hE:=rightE_iff.1 hr
 unfold b0i a0d
 by_cases h1:e.ty=1
 ·rw [if_pos h1,if_pos h1]
  unfold c0y
  by_cases hc:a0t e.defs=0
  ·rw [if_pos hc,if_neg (fun hh=>hh hc)]
  ·rw [if_neg hc,if_pos hc]
 rw [if_neg h1,if_neg h1]
 have hi:s.id≠0:=fun hh=>h1 (hz.1 hh)
 have hck:=h.defs hi
 have hl:=h.len
 by_cases h2:e.ty=2
 ·have hn:=hE.2.2.2.2.1
  rw [if_pos (.inl h2)] at hn
  rw [if_pos h2,if_pos (.inl h2)]
  unfold c0U b0a
  rw [b1N hck]
  by_cases a1:(s.nodes.length:Int)≤e.node
  ·rw [if_pos (.inl a1),if_pos a1]
  rw [if_neg (by omega),if_neg a1,if_pos h2]
  by_cases a3:e.node ∉ a0e s∨e.n≠(gt s.nodes e.node.toNat).tr+1
  ·rw [if_pos a3,if_pos a3]
  rw [if_neg a3,if_neg a3]
  have a4:e.node∈a0e s:=Decidable.not_not.1 fun hh=>a3 (.inl hh)
  have a5:=(q0M a4).2.1
  have a6:=(h.ndata _ (a0M (l:=s.nodes) (k:=e.node.toNat) (by omega))).2 (by rw [a5];decide)
  dsimp only
  rw [a6]
 rw [if_neg h2]
 by_cases h3:e.ty=3∨e.ty=4
 ·rw [if_pos h3,if_pos (.inr h3)]
  unfold endL b0a
  by_cases a1:(s.nodes.length:Int)≤e.node
  ·rw [if_pos (.inl a1),if_pos a1]
  rw [if_neg (by omega),if_neg a1,if_neg h2]
  by_cases a3:(gt s.nodes e.node.toNat).st≠1∨e.n≠(gt s.nodes e.node.toNat).tr
  ·rw [if_pos a3,if_pos a3]
  rw [if_neg a3,if_neg a3]
  by_cases a4:e.ty=3
  ·rw [if_pos a4,if_pos a4]
  rw [if_neg a4,if_neg a4]
  by_cases a5:(gt s.nodes e.node.toNat).tr=(gt s.defs e.node.toNat).tr
  ·rw [if_pos a5,if_pos a5]
  ·rw [if_neg a5,if_neg a5]
 rw [if_neg h3,if_neg (show ¬ (e.ty=2∨e.ty=3∨e.ty=4) by omega)]
 by_cases h5:e.ty=5
 ·rw [if_pos h5,if_pos (.inl h5),a0g,if_pos h5]
 rw [if_neg h5]
 by_cases h6:e.ty=6
 ·rw [if_pos h6,if_pos (.inr h6),a0g,if_neg h5]
 rw [if_neg h6,if_neg (show ¬ (e.ty=5∨e.ty=6) by omega)]
theorem c1U {s:S12}{e:Ev}(h:Ok12 s):b1Y s e=a0H s e:=by
 unfold b1Y c0P a0H
 by_cases a1:b0K e=false∨e.id≠s.id+1∨e.ver<s.ver∨e.time<s.time
 ·rw [if_pos a1,if_pos a1];try rfl
 rw [if_neg a1,if_neg a1]
 by_cases a2:s.closed≠0
 ·rw [if_pos a2,if_pos a2];try rfl
 rw [if_neg a2,if_neg a2]
 by_cases a3:decide (s.id=0)≠decide (e.ty=1)
 ·rw [if_pos a3,if_pos a3];try rfl
 rw [if_neg a3,if_neg a3]
 simp only [ne_eq,Decidable.not_not,decide_eq_decide] at a3
 rw [h1F h (by simpa using fun h=>a1 (.inl h)) a3]
 by_cases a4:(a0d s e).1=0
 ·rw [if_pos a4,if_neg (fun hh=>hh a4)]
 ·rw [if_neg a4,if_pos a4]
def FitV (e:Ev):Prop:=e.data.length≤1000000∧e.name.length≤1000000∧Fit e.defs
def a0N:S12→List Ev→Int × S12
 | s,[]=>(0,s)
 | s,e :: l=>if (a0H s e).1=0 then a0N (a0H s e).2 l else ((a0H s e).1,s0)
theorem w0X:∀ {l:List Ev} {s:S12},Ok12 s→(∀ e∈l,FitV e)→(a0N s l).1=0→Ok12 (a0N s l).2
 | [],s,h,_,_=>h
 | e :: l,s,h,hl,hr=>by
  rw [a0N] at hr ⊢
  by_cases a:(a0H s e).1=0
  ·rw [if_pos a] at hr ⊢
   exact w0X (d0N h (hl e (by simp)).2.2.2 a) (fun x hx=>hl x (by simp [hx])) hr
  ·rw [if_neg a] at hr;exact absurd hr a
theorem j0P:∀ {l m:List Ev} {s:S12},(a0N s l).1=0→a0N s (l++m)=a0N (a0N s l).2 m
 | [],m,s,_=>rfl
 | e :: l,m,s,h=>by
  rw [List.cons_append,a0N,a0N]
  rw [a0N] at h
  by_cases a:(a0H s e).1=0
  ·rw [if_pos a] at h ⊢
   rw [if_pos a];exact j0P h
  ·rw [if_neg a] at h;exact absurd h a
def fEv (l:List Ev):F:=.s (l.flatMap Ev.cs) l.length
theorem u0r {g:List Ev}:slcS (.f (fEv g))=some g.length:=id rfl
theorem v0M {g:List Ev}{sz:Nat}{k:IntKind}{i:Int}{K:D→Prop}:idxS sz (.f (fEv g)) (.f (.v (.int k i))) K=((0≤i∧i<g.length)∧K (.rf ((g.flatMap Ev.cs).drop (i.toNat*sz)))):=id rfl
theorem c0g {H:List Row}{g:List Ev}{sz:Nat}:b0b H sz (.f (fEv g))=some (g.length,g.flatMap Ev.cs):=id rfl
theorem u0f {k:Nat}{g:List Ev}{K:Bool→Prop}:d0U k (.f (fEv g)) (.f (.v (.slice none 0 0))) K=(k=0∧Nz g.length (K true) (K false)):=id rfl
theorem a0K {g:List Ev}:(g.flatMap Ev.cs).length=g.length*9:=b0E Ev.cs_len g
theorem b0t {H:List Row}{g:List Ev}{k:Nat}(hk:k<g.length):loadA H 9 (.rf ((g.flatMap Ev.cs).drop (k*9)))=some (.ag ((Ev.cs (gt g k)).map .f)):=b0T Ev.cs_len hk
theorem b1M {g:List Ev}{k:Nat}(hk:k<g.length):(g.flatMap Ev.cs)[k*9]?=(Ev.cs (gt g k))[0]?:=b0B (j:=0) Ev.cs_len hk (by omega)
theorem g0d {g:List Ev}{k:Nat}(hk:k<g.length):(g.flatMap Ev.cs)[k*9+1]?=(Ev.cs (gt g k))[1]?:=b0B (j:=1) Ev.cs_len hk (by omega)
theorem o0I {g:List Ev}{k:Nat}(hk:k<g.length):(g.flatMap Ev.cs)[k*9+2]?=(Ev.cs (gt g k))[2]?:=b0B (j:=2) Ev.cs_len hk (by omega)
theorem i1Z {g:List Ev}{k:Nat}(hk:k<g.length):(g.flatMap Ev.cs)[k*9+5]?=(Ev.cs (gt g k))[5]?:=b0B (j:=5) Ev.cs_len hk (by omega)
theorem LEv:((type_of% @u0r∧type_of% @v0M)∧(type_of% @c0g∧type_of% @u0f)):=⟨⟨@u0r,@v0M⟩,⟨@c0g,@u0f⟩⟩
structure Wk12 (s:S12):Prop where
 fit:FitA s
 pos:Pos s.defs
 len:s.nodes.length=s.defs.length
 id:0≤s.id∧s.id<1000000000
 zero:s.nodes.length=0↔s.id=0
theorem Ok12.wk {s:S12}(h:Ok12 s):Wk12 s:=by
 obtain ⟨h1,h2,h3⟩:=h.fitA
 have:=h.id
 exact ⟨h1,h2,h.len,⟨by omega,by omega⟩,h3⟩
theorem Ok12.wk1 {s:S12}(h:Ok12 s)(hi:s.id≠0):Wk12 { s with id:=1 }:=by
 obtain ⟨h1,h2,h3⟩:=h.fitA
 exact ⟨⟨⟨h1.fit.defs,h1.fit.nodes,h1.fit.ndata,h1.fit.tms,h1.fit.sgs,h1.fit.sdata⟩,h1.defs,h1.le,h1.tr⟩,h2,h.len,⟨by simp,by simp⟩,by dsimp only;omega⟩
theorem Wk12.app {s:S12}{e:Ev}(h:Wk12 s)(he:FitV e):Con Tryz.prog 66 [stD s,evD e] [] fun r H'=>r = .tp [stD (a0H s e).2,D.int (a0H s e).1]∧H'=[] :=
 u0A s e h.fit h.pos h.len he.1 he.2.1 he.2.2 h.id h.zero
theorem g1O {H:List Row}{s:S12}:Vw H (stD s) (stD s):=.ags (.cons .f (.cons .f (.cons .f (.cons .f (.cons .f (.cons .f (.cons .f (.cons .f (.cons .f .nil)))))))))
abbrev sA (s:S12):D:=.ag [.f (.v (.int .i64 s.id)),.f (.v (.int .i64 s.ver)),.f (.v (.int .i64 s.time)),.f (.v (.int .i64 s.closed)),.f (.v (.bool s.cancel)),.f (fG s.defs),.f (fNn s.nodes),.f (fTm s.tms),.f (fSg s.sgs)]
abbrev eA (e:Ev):D:=.ag [.f (.v (.int .i64 e.id)),.f (.v (.int .i64 e.ver)),.f (.v (.int .i64 e.time)),.f (.v (.int .i64 e.ty)),.f (.v (.int .i64 e.node)),.f (.v (.int .i64 e.n)),.f (.v (.string (BB e.name))),.f (fY e.data),.f (fG e.defs)]
instance {s:S12}{e:Ev}{H:List Row}{K:Bool→D→List Row→Prop}[hs:Kn (Wk12 s)][he:Kn (FitV e)]:Wa (a0m Tryz.prog (.fn 66 []) [.ag [.f (.v (.int .i64 s.id)),.f (.v (.int .i64 s.ver)),.f (.v (.int .i64 s.time)),.f (.v (.int .i64 s.closed)),.f (.v (.bool s.cancel)),.f (fG s.defs),.f (fNn s.nodes),.f (fTm s.tms),.f (fSg s.sgs)],.ag [.f (.v (.int .i64 e.id)),.f (.v (.int .i64 e.ver)),.f (.v (.int .i64 e.time)),.f (.v (.int .i64 e.ty)),.f (.v (.int .i64 e.node)),.f (.v (.int .i64 e.n)),.f (.v (.string (BB e.name))),.f (fY e.data),.f (fG e.defs)]] H K)
  (K true (.tp [sA (a0H s e).2,.f (.v (.int .i64 (a0H s e).1))]) H):=⟨fun h=>a0O (Wk12.app hs.h he.h) rfl rfl rfl h⟩
def s0M:SCode :=
  (jq ([.a 6 (.mv (.c (.f (.v (.pointer none))))),jk 7 0]) (jq ((ap [jm 11 0,.a 12 (.call (kC 28) [(.t 11)])] [jm 10 12,jE 13 0 10,jE 14 1 10,.a 8
 (.alloc 65 [jI,jI,jI,jI,jF,jN,jN,jN,jN]),.n (.store 9 (.t 8) (.t 13)),jm 9 14])) (.seq (jq ((ap [jm 15 9,jb 16 .neq 15 0] (ap [jm 17 16,gM
 18 1 17 false] (ap [jG 19 (.call (kC 114) [(.t 18)]) 17 false] (ap [jG 20 (.unot (.t 19)) 17 false,.a 21 (.pick (.t 17) kT (.t 20)),jm 22 21,gM 23 2
 22 false] (ap [jG 24 (.bin .lss (.t 23) (kI 0)) 22 false] (ap [.a 25 (.pick (.t 22) kT (.t 24)),jm 26 25,gM 27 2 26 false] (ap [jG 28 (.bin .gtr (.t
 27) (kI 1099511627776)) 26 false] [.a 29 (.pick (.t 26) kT (.t 28))])))))))) (jc 29 (jq ([.a 6 (.mv (.c (.f (.v (.pointer none))))),jk 7 1]) .ret)
 .skip)) (.seq (jq ([jm 30 1,jo 31 1 8,jl 32 31,jB 33 .lss 30 32]) (jc 33 (jq ([.a 6 (.mv (.c (.f (.v (.pointer none))))),jk 7 4]) .ret) .skip)) (jq
 ([jL 34 9 8,jm 35 1,jm 36 2,.a 37 (.bld [jI,jI,jI,jI,jF,jN,jN,jN,jN,jI,jI,jN] [(0,9,(.t 34)),(9,1,(.t 35)),(10,1,(.t 36))]),.a
 38 (.box 121 (.t 37)),jm 6 38,jk 7 0]) .ret)))))
theorem z0G:Fn Tryz.prog 72 39 [.t 6,.t 7] s0M:=.of Tryz.func72 (by kernel_rfl)
def n0i:SCode :=
  (jq ([.a 3 (.box 73 (.t 1)),.a 4 (.alloc 73 [jI,jI,jI,jI,jI,jI,(.f (.v (.string ⟨#[]⟩))),jN,jN])]) (jq ([jm 5 0,jn 6 5,jo 7 0 6,jo 8 0 7,
 jl 9 8,jb 10 .add 9 1,jo 11 0 3,.n (.store 1 (.t 11) (.t 10))]) (jq ([jm 12 0,jn 13 12,jo 14 9 13,jl 15 14,jo 16 1 3,.n (.store 1 (.t 16) (.t
 15))]) (.seq (.drw [jm 17 0,jn 18 17,jo 19 10 18,jl 20 19,jm 21 0,jn 22 21,jo 23 0 22,jo 24 2 23,jl 25 24,.a 26 (.mm true (.t 20) (.t 25)),jo
 27 2 3,.n (.store 1 (.t 27) (.t 26))] [0,1,3,7,0,16,48,112,240,511,1023,2047]) (jq ([jL 28 9 3,.n (.store 9 (.t 4) (.t 28))]) .ret)))))
theorem u0Z:Fn Tryz.prog 156 29 [.cA 9 4] n0i:=.of Tryz.func156 (by kernel_rfl)
def k0F:SCode :=
  (jq ([.a 3 (.box 73 (.t 1)),jk 4 0]) (jq ((ap [jm 13 0,jL 14 9 3,.a 15 (.call (kC 156) [(.t 13),(.t 14)])] [.a 16 (.bsl 73 9 1 [jI,jI,jI,jI,jI,
 jI,(.f (.v (.string ⟨#[]⟩))),jN,jN] [(0,(.t 15))]),jm 5 16])) (.seq (jq ([jm 17 5,.a 18 (.idx 9 (.t 17) (kI 0)),jo 19 0 18,jl 20 19,jb 21 .gtr
 20 200]) (jc 21 (jq ([jm 22 0,jn 23 22,jo 24 0 23,jL 25 9 24,.a 6 (.alloc 65 [jI,jI,jI,jI,jF,jN,jN,jN,jN]),.n (.store 9 (.t 6) (.t 25))])
 (jq ([jo 26 0 6,.n (.store 1 (.t 26) (kI 1))]) (jq ([jm 27 5,.a 28 (.idx 9 (.t 27) (kI 0)),jo 29 0 28,.n (.store 1 (.t 29) (kI 2))]) (.seq (.seq
 (.drw [jL 31 9 6,jm 32 5,.a 33 (.idx 9 (.t 32) (kI 0)),jL 34 9 33,.a 35 (.call (kC 66) [(.t 31),(.t 34)]),jm 30 35,jE 36 0 30,jE 37 1 30,.a 7
 (.alloc 65 [jI,jI,jI,jI,jF,jN,jN,jN,jN]),.n (.store 9 (.t 7) (.t 36)),jm 8 37] [0,0,2,6,15,31,63,63,0,383,1023]) (jq ([jm 38 8,jb
 39 .neq 38 0]) (jc 39 (jq ([jm 40 8,jm 4 40]) .ret) .skip))) (jq ([jk 4 2]) .ret))))) .skip)) (.seq (.drw [jm 42 0,jn 43 42,jo 44 0 43,jL 45 9 44,
 jm 46 5,.a 47 (.idx 9 (.t 46) (kI 0)),jL 48 9 47,.a 49 (.call (kC 66) [(.t 45),(.t 48)]),jm 41 49,jE 50 0 41,jE 51 1 41,.a 9 (.alloc 65 [jI,
 jI,jI,jI,jF,jN,jN,jN,jN]),.n (.store 9 (.t 9) (.t 50)),jm 10 51] [0,1,3,7,0,16,48,127,255,511,511,0,3071,8191]) (.seq (jq ([jm 52
 10,jb 53 .neq 52 0]) (jc 53 (jq ([jm 54 10,jm 4 54]) .ret) .skip)) (.seq (jq ((ap [jL 55 9 9,.a 56 (.call (kC 157) [(.t 55)])] [jm 11 56])) (jq ([jm
 57 11,jb 58 .neq 57 0]) (jc 58 (jq ([jm 59 0,jn 60 59,jo 61 0 60,jL 62 9 61,.a 12 (.alloc 65 [jI,jI,jI,jI,jF,jN,jN,jN,jN]),.n (.store 9
 (.t 12) (.t 62))]) (jq ([jm 63 0,jL 64 9 9,jn 65 63,jo 66 0 65,.n (.store 9 (.t 66) (.t 64))]) (jq ((ap [jm 67 5,jm 68 0,jm 69 11,.a 70 (.bld
 [jI,jI,jI,jI,jI,jI,(.f (.v (.string ⟨#[]⟩))),jN,jN] [(3,1,(.t 69))]),.a 71 (.call (kC 156) [(.t 68),(.t 70)])] (ap [.a 72 (.bsl 73 9 1 [jI,
 jI,jI,jI,jI,jI,(.f (.v (.string ⟨#[]⟩))),jN,jN] [(0,(.t 71))]),.a 73 (.app 73 9 112 (.t 67) (.t 72))] [jm 5 73]))) (jq ([jm 74 0,jL 75 9 12,
 jn 76 74,jo 77 0 76,.n (.store 9 (.t 77) (.t 75))]) (.seq (jq ([jm 78 5,.a 79 (.idx 9 (.t 78) (kI 1)),jo 80 0 79,jl 81 80,jb 82 .gtr 81 200]) (jc
 82 (jq ([jk 4 2]) .ret) .skip)) (.seq (.drw [jL 84 9 9,jm 85 5,.a 86 (.idx 9 (.t 85) (kI 1)),jL 87 9 86,.a 88 (.call (kC 66) [(.t 84),(.t 87)]),
 jm 83 88,jE 89 0 83,jE 90 1 83,.n (.store 9 (.t 9) (.t 89)),jm 10 90] [0,0,2,6,15,31,63,63,127,511]) (jq ([jm 91 10,jb 92 .neq 91 0]) (jc
 92 (jq ([jm 93 10,jm 4 93]) .ret) .skip)))))))) .skip))) (jq ([jm 94 0,jL 95 9 9,jn 96 94,jo 97 0 96,.n (.store 9 (.t 97) (.t 95))]) (jq ((ap [jm
 98 0,.a 99 (.bsl 73 9 0 [] []),jm 100 0,jn 101 100,jo 102 11 101,jl 103 102,.a 104 (.app 73 9 112 (.t 99) (.t 103))] (ap [jm 105 5,.a 106 (.app
 73 9 112 (.t 104) (.t 105))] [jn 107 98,jo 108 11 107,.n (.store 1 (.t 108) (.t 106))]))) (jq ([jk 4 0]) .ret)))))))))
theorem q0R:Fn Tryz.prog 132 109 [.t 4] k0F:=.of Tryz.func132 (by kernel_rfl)
def j0X:SCode :=
  (jq ([jk 4 0]) (.seq (jq ([jm 6 0,jn 7 6,jo 8 0 7,jo 9 0 8,jl 10 9,jb 11 .gtr 10 0]) (jc 11 (jq ([jk 4 13]) .ret) .skip)) (.seq (jq ((ap [jm 12 1,
 .a 13 (.call (kC 104) [(.t 12)])] [jm 5 13])) (jq ([jm 14 5,jb 15 .neq 14 0]) (jc 15 (jq ([jm 16 5,jm 4 16]) .ret) .skip))) (jq ((ap [jm 17 0,jm 18
 1,.a 19 (.bld [jI,jI,jI,jI,jI,jI,(.f (.v (.string ⟨#[]⟩))),jN,jN] [(3,1,(kI 1)),(8,1,(.t 18))]),.a 20 (.call (kC 132) [(.t 17),(.t
 19)])] [jm 4 20])) .ret))))
theorem q0b:Fn Tryz.prog 89 21 [.t 4] j0X:=.of Tryz.func89 (by kernel_rfl)
def n0e:SCode :=
  (jq ([jk 2 0]) (.seq (.block 0 (jq ((ap [jm 4 0,jn 5 4,jo 6 0 5,jo 7 0 6,jl 8 7,jb 9 .eql 8 0] [jm 3 9])) (jc 3 (jq ([jk 2 3]) .ret) (jq ((ap [jm
 11 0,jn 12 11,jo 13 0 12,jo 14 3 13,jl 15 14,jb 16 .neq 15 0] [jm 10 16])) (jc 10 (jq ([jk 2 12]) .ret) .skip))))) (jq ([jk 2 0]) .ret)))
theorem u0P:Fn Tryz.prog 153 17 [.t 2] n0e:=.of Tryz.func153 (by kernel_rfl)
def j0u:SCode :=
  (jq ([jk 2 0,jk 3 0,jk 4 0]) (.seq (jq ((ap [jm 9 0,.a 10 (.call (kC 153) [(.t 9)])] [jm 5 10])) (jq ([jm 11 5,jb 12 .neq 11 0]) (jc 12 (jq ([jm 13
 5,jk 2 0,jk 3 0,jm 4 13]) .ret) .skip))) (jq ((ap [jm 14 0,jn 15 14,jo 16 0 15,jL 17 9 16,.a 18 (.call (kC 147) [(.t 17)])] [jm 6 18])) (.seq
 (jq ([jm 19 6,je 20 19,jb 21 .eql 20 0]) (jc 21 (jq ([jk 2 0,jk 3 0,jk 4 3]) .ret) .skip)) (.seq (.drw [jm 22 0,jn 23 22,jo 24 0 23,jo 25 6 24,
 jl 26 25,jm 27 6,.a 28 (.idx 1 (.t 27) (kI 0)),jl 29 28,jx 30 4 26 29,jo 31 1 30,jl 32 31,jb 33 .add 32 1,jm 7 33] [0,1,3,7,15,0,32,96,
 255,511,1023,2047,4095]) (.seq (jq ((ap [jm 34 0,jm 35 6,.a 36 (.idx 1 (.t 35) (kI 0)),jl 37 36,jm 38 7,.a 39 (.bld [jI,jI,jI,jI,jI,jI,
 (.f (.v (.string ⟨#[]⟩))),jN,jN] [(3,1,(kI 2)),(4,1,(.t 37)),(5,1,(.t 38))]),.a 40 (.call (kC 132) [(.t 34),(.t 39)])] [jm 8 40])) (jq ([jm
 41 8,jb 42 .neq 41 0]) (jc 42 (jq ([jm 43 8,jk 2 0,jk 3 0,jm 4 43]) .ret) .skip))) (jq ([jm 44 6,.a 45 (.idx 1 (.t 44) (kI 0)),jl 46 45,jm 47 7,
 jm 2 46,jm 3 47,jk 4 0]) .ret)))))))
theorem s0T:Fn Tryz.prog 115 48 [.t 2,.t 3,.t 4] j0u:=.of Tryz.func115 (by kernel_rfl)
def h0J:SCode :=
  (jq ([jk 10 0]) (.seq (jq ((ap [jm 12 0,.a 13 (.call (kC 153) [(.t 12)])] [jm 11 13])) (jq ([jm 14 11,jb 15 .neq 14 0]) (jc 15 (jq ([jm 16 11,jm 10
 16]) .ret) .skip))) (.seq (jq ((ap [jm 17 1,jb 18 .lss 17 0] (ap [jm 19 18,gM 20 1 19 false] (ap [gM 21 0 19 false,gN 22 21 19 false,gO 23 0 22 19
 false,gO 24 6 23 19 false,gL 25 24 19 false,jG 26 (.slen (.t 25)) 19 false,jG 27 (.bin .geq (.t 20) (.t 26)) 19 false] (ap [.a 28 (.pick (.t 19) kT
 (.t 27)),jm 29 28,gM 30 4 29 false] (ap [jG 31 (.slen (.t 30)) 29 false,jG 32 (.bin .gtr (.t 31) (kI 40)) 29 false] (ap [.a 33 (.pick (.t 29) kT (.t
 32)),jm 34 33,gM 35 3 34 false] (ap [jG 36 (.unot (.t 35)) 34 false,gM 37 36 34 false,gM 38 4 37 true] (ap [jG 39 (.slen (.t 38)) 37 true,jG 40
 (.bin .gtr (.t 39) (kI 0)) 37 true] (ap [jG 41 (.pick (.t 37) (.t 40) kF) 34 false] [.a 42 (.pick (.t 34) kT (.t 41))])))))))))) (jc 42 (jq ([jk 10 1])
 .ret) .skip)) (.seq (jq ((ap [jm 43 0,jn 44 43,jo 45 0 44,jo 46 6 45,jl 47 46,jm 48 1,jx 49 4 47 48,jo 50 0 49,jl 51 50,jb 52 .neq 51 1] (ap
 [jm 53 52,gM 54 0 53 false] (ap [gN 55 54 53 false,gO 56 0 55 53 false,gO 57 6 56 53 false,gL 58 57 53 false,gM 59 1 53 false,jG 60 (.idx 4 (.t
 58) (.t 59)) 53 false,gO 61 1 60 53 false,gL 62 61 53 false,gM 63 2 53 false,jG 64 (.bin .neq (.t 62) (.t 63)) 53 false] [.a 65 (.pick (.t 53) kT
 (.t 64))])))) (jc 65 (jq ([jk 10 4]) .ret) .skip)) (.seq (jq ([jm 66 3]) (jc 66 (jq ((ap [jm 67 0,jm 68 1,jm 69 2,jm 70 4,.a 71 (.bld [jI,jI,jI,
 jI,jI,jI,(.f (.v (.string ⟨#[]⟩))),jN,jN] [(3,1,(kI 3)),(4,1,(.t 68)),(5,1,(.t 69)),(7,1,(.t 70))]),.a 72 (.call (kC 132) [(.t 67),
 (.t 71)])] [jm 10 72])) .ret) .skip)) (jq ((ap [jm 73 0,jm 74 1,jm 75 2,.a 76 (.bld [jI,jI,jI,jI,jI,jI,(.f (.v (.string ⟨#[]⟩))),jN,jN] [(3,
 1,(kI 4)),(4,1,(.t 74)),(5,1,(.t 75))]),.a 77 (.call (kC 132) [(.t 73),(.t 76)])] [jm 10 77])) .ret))))))
theorem n0s:Fn Tryz.prog 116 78 [.t 10] h0J:=.of Tryz.func116 (by kernel_rfl)
def r0o:SCode :=
  (jq ([jk 6 0]) (.seq (jq ((ap [jm 8 0,.a 9 (.call (kC 153) [(.t 8)])] [jm 7 9])) (jq ([jm 10 7,jb 11 .neq 10 0]) (jc 11 (jq ([jm 12 7,jm 6 12])
 .ret) .skip))) (.seq (jq ((ap [jm 13 1,.a 14 (.call (kC 133) [(.t 13)])] (ap [.a 15 (.unot (.t 14)),jm 16 15,gM 17 2 16 false] (ap [jG 18 (.bin .lss
 (.t 17) (kI 1)) 16 false] (ap [.a 19 (.pick (.t 16) kT (.t 18)),jm 20 19,gM 21 2 20 false] (ap [jG 22 (.bin .gtr (.t 21) (kI 1048576)) 20 false] [.a
 23 (.pick (.t 20) kT (.t 22))])))))) (jc 23 (jq ([jk 6 1]) .ret) .skip)) (jq ((ap [jm 24 0,jm 25 1,jm 26 2,.a 27 (.bld [jI,jI,jI,jI,jI,jI,(.f
 (.v (.string ⟨#[]⟩))),jN,jN] [(3,1,(kI 5)),(6,1,(.t 25)),(5,1,(.t 26))]),.a 28 (.call (kC 132) [(.t 24),(.t 27)])] [jm 6 28])) .ret))))
theorem y0m:Fn Tryz.prog 118 29 [.t 6] r0o:=.of Tryz.func118 (by kernel_rfl)
def h0T:SCode :=
  (jq ([.a 6 (.mv kF),jk 7 0]) (.seq (jq ([jm 9 0,jn 10 9,jo 11 0 10,jo 12 0 11,jl 13 12,jb 14 .eql 13 0]) (jc 14 (jq ([.a 6 (.mv kF),jk 7 3])
 .ret) .skip)) (.seq (jq ((ap [jm 15 1,.a 16 (.call (kC 133) [(.t 15)])] (ap [.a 17 (.unot (.t 16)),jm 18 17,gM 19 2 18 false] (ap [jG 20 (.slen (.t
 19)) 18 false,jG 21 (.bin .gtr (.t 20) (kI 40)) 18 false] [.a 22 (.pick (.t 18) kT (.t 21))])))) (jc 22 (jq ([.a 6 (.mv kF),jk 7 1]) .ret) .skip))
 (.seq (jq ([jm 23 0,jn 24 23,jo 25 0 24,jL 26 9 25,jm 27 1,.a 28 (.call (kC 30) [(.t 26),(.t 27)])]) (jc 28 (jq ([.a 6 (.mv kF),jk 7 0]) .ret)
 .skip)) (.seq (jq ([jm 29 0,jn 30 29,jo 31 0 30,jo 32 3 31,jl 33 32,jb 34 .neq 33 0]) (jc 34 (jq ([.a 6 (.mv kF),jk 7 12]) .ret) .skip)) (.seq
 (jq ((ap [jm 35 0,jm 36 1,jm 37 2,.a 38 (.bld [jI,jI,jI,jI,jI,jI,(.f (.v (.string ⟨#[]⟩))),jN,jN] [(3,1,(kI 7)),(6,1,(.t 36)),(7,1,
 (.t 37))]),.a 39 (.call (kC 132) [(.t 35),(.t 38)])] [jm 8 39])) (jq ([jm 40 8,jb 41 .neq 40 0]) (jc 41 (jq ([jm 42 8,.a 6 (.mv kF),jm 7 42])
 .ret) .skip))) (jq ([.a 6 (.mv kT),jk 7 0]) .ret)))))))
theorem o0k:Fn Tryz.prog 91 43 [.t 6,.t 7] h0T:=.of Tryz.func91 (by kernel_rfl)
def h0L:SCode :=
  (jq ([jk 2 0]) (.seq (jq ((ap [jm 4 0,.a 5 (.call (kC 153) [(.t 4)])] [jm 3 5])) (jq ([jm 6 3,jb 7 .neq 6 0]) (jc 7 (jq ([jm 8 3,jm 2 8]) .ret)
 .skip))) (jq ((ap [jm 9 0,.a 10 (.bld [jI,jI,jI,jI,jI,jI,(.f (.v (.string ⟨#[]⟩))),jN,jN] [(3,1,(kI 8))]),.a 11 (.call (kC 132) [(.t 9),
 (.t 10)])] [jm 2 11])) .ret)))
theorem o0i:Fn Tryz.prog 120 12 [.t 2] h0L:=.of Tryz.func120 (by kernel_rfl)
def e0B:SCode :=
  (jq ([jk 2 0]) (.seq (jq ((ap [jm 4 0,.a 5 (.call (kC 153) [(.t 4)])] [jm 3 5])) (jq ([jm 6 3,jb 7 .neq 6 0]) (jc 7 (jq ([jm 8 3,jm 2 8]) .ret)
 .skip))) (jq ((ap [jm 9 0,.a 10 (.bld [jI,jI,jI,jI,jI,jI,(.f (.v (.string ⟨#[]⟩))),jN,jN] [(3,1,(kI 12))]),.a 11 (.call (kC 132) [(.t 9),
 (.t 10)])] [jm 2 11])) .ret)))
theorem h0n:Fn Tryz.prog 121 12 [.t 2] e0B:=.of Tryz.func121 (by kernel_rfl)
def m0D:SCode :=
  (jq ([jk 2 0]) (jq ([jk 3 0]) (.seq (.drw [jm 10 0,jn 11 10,jo 12 10 11,jl 13 12,jm 14 0,jn 15 14,jo 16 0 15,jo 17 2 16,jl 18 17,.a 19 (.mm
 true (.t 13) (.t 18)),jm 4 19] [0,1,3,7,0,16,48,112,240,511,1023]) (.seq (jq ([jk 5 0]) (.block 0 (.loop (.seq (jq ((ap [jm 20 5,jm 21 0,
 jn 22 21,jo 23 0 22,jo 24 6 23,jl 25 24,je 26 25,jB 27 .lss 20 26] (ap [jm 28 27,gM 29 0 28 true] (ap [gN 30 29 28 true,gO 31 0 30 28 true,gO
 32 3 31 28 true,gL 33 32 28 true,jG 34 (.bin .eql (.t 33) (kI 0)) 28 true] [.a 35 (.pick (.t 28) (.t 34) kF)])))) (jc 35 .skip (.exit 0))) (.seq
 (.block 1 (jq ([jm 38 0,jn 39 38,jo 40 0 39,jo 41 6 40,jl 42 41,jm 43 5,jx 44 4 42 43,jL 45 4 44,.a 6 (.alloc 158 [jI,jI,jI,jN]),.n (.store
 4 (.t 6) (.t 45))]) (.seq (jq ((ap [jo 46 0 6,jl 47 46,jb 48 .neq 47 1] (ap [jm 49 48,gO 50 2 6 49 false] (ap [gL 51 50 49 false,gM 52 4 49 false,
 jG 53 (.bin .gtr (.t 51) (.t 52)) 49 false] [.a 54 (.pick (.t 49) kT (.t 53))])))) (jc 54 (.exit 1) .skip)) (.seq (jq ((ap [jm 55 0,jm 56 5,jo 57 1
 6,jl 58 57,.a 59 (.bld [jI,jI,jI,jI,jI,jI,(.f (.v (.string ⟨#[]⟩))),jN,jN] [(3,1,(kI 4)),(4,1,(.t 56)),(5,1,(.t 58))]),.a 60 (.call
 (kC 132) [(.t 55),(.t 59)])] [jb 61 .neq 60 0])) (jc 61 (jq ([jm 62 3,jm 2 62]) .ret) .skip)) (.ops [jm 63 3,jb 64 .add 63 1,jm 3 64]))))) (.ops
 [jm 36 5,jb 37 .add 36 1,jm 5 37])))))) (.seq (.block 2 (.loop (.seq (jq ([jm 65 0,jn 66 65,jo 67 0 66,jo 68 3 67,jl 69 68,jb 70 .eql 69 0]) (jc
 70 .skip (.exit 2))) (.block 3 (jq ([.a 7 (.mv (kI (-1)))]) (.seq (jq ([jk 8 0]) (.block 4 (.loop (.seq (jq ([jm 71 8,jm 72 0,jn 73 72,jo 74 0 73,
 jo 75 7 74,jl 76 75,je 77 76,jB 78 .lss 71 77]) (jc 78 .skip (.exit 4))) (.seq (.block 5 (jq ([jm 81 0,jn 82 81,jo 83 0 82,jo 84 7 83,jl 85 84,
 jm 86 8,jx 87 3 85 86,jL 88 3 87,.a 9 (.alloc 180 [(.f (.v (.string ⟨#[]⟩))),jI,jF]),.n (.store 3 (.t 9) (.t 88))]) (.seq (jq ((ap [jo 89 2 9,jl
 90 89,jm 91 90,gO 92 1 9 91 false] (ap [gL 93 92 91 false,gM 94 4 91 false,jG 95 (.bin .gtr (.t 93) (.t 94)) 91 false] [.a 96 (.pick (.t 91) kT (.t
 95))]))) (jc 96 (.exit 5) .skip)) (.seq (.drw [jm 97 7,jb 98 .lss 97 0,jm 99 98,gO 100 1 9 99 false,gL 101 100 99 false,gM 102 0 99 false,gN 103
 102 99 false,gO 104 0 103 99 false,gO 105 7 104 99 false,gL 106 105 99 false,gM 107 7 99 false,jG 108 (.idx 3 (.t 106) (.t 107)) 99 false,gO 109
 1 108 99 false,gL 110 109 99 false,jG 111 (.bin .lss (.t 101) (.t 110)) 99 false,.a 112 (.pick (.t 99) kT (.t 111)),jm 113 112,gO 114 1 9 113
 false,gL 115 114 113 false,gM 116 0 113 false,gN 117 116 113 false,gO 118 0 117 113 false,gO 119 7 118 113 false,gL 120 119 113 false,gM 121 7
 113 false,jG 122 (.idx 3 (.t 120) (.t 121)) 113 false,gO 123 1 122 113 false,gL 124 123 113 false,jG 125 (.bin .eql (.t 115) (.t 124)) 113 false,
 gM 126 125 113 false,gO 127 0 9 126 true,gL 128 127 126 true,gM 129 0 126 true,gN 130 129 126 true,gO 131 0 130 126 true,gO 132 7 131 126 true,
 gL 133 132 126 true,gM 134 7 126 true,jG 135 (.idx 3 (.t 133) (.t 134)) 126 true,gO 136 0 135 126 true,gL 137 136 126 true,jG 138 (.bin .lss (.t
 128) (.t 137)) 126 true,jG 139 (.pick (.t 126) (.t 138) kF) 113 false,.a 140 (.pick (.t 113) kT (.t 139))] [0,1,3,7,15,7,39,103,231,487,7,
 2023,4071,8167,16383,32767,65535,131071,262143,131071,655359,1703935,3801087,7995391,131071,33161215,66715647,133824511,268435455,
 536870911,1073741823,2147483647,1073741823,5368709119,13958643711,31138512895,65498251263,1073741823,271656681471,546534588415,
 1096290402303,2199023255551,4398046511103,8796093022207]) (jc 140 (.ops [jm 141 8,jm 7 141]) .skip))))) (.ops [jm 79 8,jb 80 .add 79 1,jm 8
 80])))))) (.seq (jq ((ap [jm 142 7,jb 143 .lss 142 0] (ap [jm 144 143,gM 145 0 144 false] (ap [gM 146 0 144 false,gN 147 146 144 false,gO 148 0 147
 144 false,gO 149 7 148 144 false,gL 150 149 144 false,gM 151 7 144 false,jG 152 (.idx 3 (.t 150) (.t 151)) 144 false,gO 153 0 152 144 false,gL
 154 153 144 false,jG 155 (.bld [jI,jI,jI,jI,jI,jI,(.f (.v (.string ⟨#[]⟩))),jN,jN] [(3,1,(kI 6)),(6,1,(.t 154))]) 144 false,jG 156
 (.call (kC 132) [(.t 145),(.t 155)]) 144 false] (ap [jG 157 (.bin .neq (.t 156) (kI 0)) 144 false] [.a 158 (.pick (.t 144) kT (.t 157))]))))) (jc 158
 (jq ([jm 159 3,jm 2 159]) .ret) .skip)) (.ops [jm 160 3,jb 161 .add 160 1,jm 3 161])))))))) (jq ([jm 162 3,jm 2 162]) .ret))))))
theorem t0T:Fn Tryz.prog 119 163 [.t 2] m0D:=.of Tryz.func119 (by kernel_rfl)
theorem g1u {H:List Row}{e:Ev}:Vw H (evD e) (evD e):=.ags (.cons .f (.cons .f (.cons .f (.cons .f (.cons .f (.cons .f (.cons .f (.cons .f (.cons .f .nil)))))))))
theorem n0J:inf Tryz.prog 73=some (9,112,[.int .i64 0,.int .i64 0,.int .i64 0,.int .i64 0,.int .i64 0,.int .i64 0,.string ⟨#[]⟩,.slice none 0 0,.slice none 0 0]):=by kernel_rfl
theorem h1k {l:List Ev}{e:Ev}:l.flatMap Ev.cs++[F.v (.int .i64 e.id),.v (.int .i64 e.ver),.v (.int .i64 e.time),.v (.int .i64 e.ty),.v (.int .i64 e.node),.v (.int .i64 e.n),.v (.string (BB e.name)),fY e.data,fG e.defs]=(l++[e]).flatMap Ev.cs:=by simp [Ev.cs]
theorem g1f {l:List Ev}{e f:Ev}:l.flatMap Ev.cs++[F.v (.int .i64 e.id),.v (.int .i64 e.ver),.v (.int .i64 e.time),.v (.int .i64 e.ty),.v (.int .i64 e.node),.v (.int .i64 e.n),.v (.string (BB e.name)),fY e.data,fG e.defs,F.v (.int .i64 f.id),.v (.int .i64 f.ver),.v (.int .i64 f.time),.v (.int .i64 f.ty),.v (.int .i64 f.node),.v (.int .i64 f.n),.v (.string (BB f.name)),fY f.data,fG f.defs]=(l++[e,f]).flatMap Ev.cs:=by simp [Ev.cs]
structure Pn where
 s:S12
 ver:Int
 now:Int
 out:List Ev
def pnD (p:Pn):List D:=[D.int p.s.id,D.int p.s.ver,D.int p.s.time,D.int p.s.closed,D.bool p.s.cancel,.f (fG p.s.defs),.f (fNn p.s.nodes),.f (fTm p.s.tms),.f (fSg p.s.sgs),D.int p.ver,D.int p.now,.f (fEv p.out)]
def pnB (p:Pn):Row:=.box 121 (pnD p)
def a0W (p:Pn)(e:Ev):Ev:={ e with id:=p.s.id+1,ver:=p.ver,time:=max p.now p.s.time }
theorem l0s (p:Pn)(e:Ev)(hi:0≤p.s.id∧p.s.id<1000000000):Con Tryz.prog 156 [.pt 0 0,evD e] [pnB p] fun r H'=>r=evD (a0W p e)∧H'=[pnB p]:=by
 obtain ⟨⟨id,ver,time,closed,cancel,defs,nodes,tms,sgs⟩,v,now,out⟩:=p
 obtain ⟨hi1,hi2⟩:=hi
 dsimp only at hi1 hi2
 refine Con.walk good u0Z (by simp) ?_
 unfold n0i
 simp only [a0J,pnB,pnD,evD]
 repeat' (with_reducible first|refine Wx.h ?_|refine We.h fun K hK=>?_|(refine hK _ _ _ _ ?_;clear hK K;try clear hM M)|refine Wb.h fun K hK=>?_|(refine hK _ ?_;clear hK K)|(refine Wy.h ?_ ?_;kernel_rfl)|((fail_if_success refine Wz.h ?_);simp (disch:=omega) only [↓LD,LA,a0A,seval]))
 exact RetS.still (ds:=[evD (a0W ⟨⟨id,ver,time,closed,cancel,defs,nodes,tms,sgs⟩,v,now,out⟩ e)]) (by kernel_rfl) (by kernel_rfl) g1u ⟨rfl,rfl⟩
def ev0 (ty:Int):Ev:=⟨0,0,0,ty,0,0,[],[],[]⟩
theorem g0c (s:S12):a0Y s=0∨a0Y s=9∨a0Y s=10∨a0Y s=11:=by
 unfold a0Y;split
 ·omega
 ·split
  ·omega
  ·split
   ·omega
   ·split<;>omega
def endP (p:Pn)(s:S12)(e1:Ev):Int × Pn :=
  if a0Y s≠0 then
    (if 200<s.id+1 then (2,p)
     else if (a0H s (a0W { p with s:=s } (ev0 (a0Y s)))).1≠0 then ((a0H s (a0W { p with s:=s } (ev0 (a0Y s)))).1,p)
     else (0,{ p with s:=(a0H s (a0W { p with s:=s } (ev0 (a0Y s)))).2,out:=p.out++[e1,a0W { p with s:=s } (ev0 (a0Y s))] }))
  else (0,{ p with s:=s,out:=p.out++[e1] })
def a0P (p:Pn)(e:Ev):Int × Pn :=
 if 200<p.s.id+1 then
  (if (a0H { p.s with id:=1 } { a0W p e with id:=2 }).1≠0 then ((a0H { p.s with id:=1 } { a0W p e with id:=2 }).1,p) else (2,p))
 else if (a0H p.s (a0W p e)).1≠0 then ((a0H p.s (a0W p e)).1,p)
 else endP p (a0H p.s (a0W p e)).2 (a0W p e)
set_option maxRecDepth 100000 in
theorem t0r (p:Pn)(e:Ev)(ho:Ok12 p.s)(he:FitV e)(hl:p.out.length≤1000000):Con Tryz.prog 132 [.pt 0 0,evD e] [pnB p] fun r H'=>r=D.int (a0P p e).1∧H'=[pnB (a0P p e).2]:=by
  obtain ⟨s,ver,now,out⟩:=p
  suffices hh:∀ Q:D→List Row→Prop,(∀ r H',r=D.int (a0P ⟨s,ver,now,out⟩ e).1→H'=[pnB (a0P ⟨s,ver,now,out⟩ e).2]→Q r H')→Con Tryz.prog 132 [.pt 0 0,evD e] [pnB ⟨s,ver,now,out⟩] Q from hh _ fun _ _ h1 h2=>⟨h1,h2⟩
  intro Q hQ
  dsimp only at ho hl
  have hid:=ho.id
  haveI:Kn (Wk12 s):=⟨ho.wk⟩
  have hn:FitV (a0W ⟨s,ver,now,out⟩ e):=he
  haveI:Kn (FitV (a0W ⟨s,ver,now,out⟩ e)):=⟨hn⟩
  refine Con.walk good q0R (by simp) ?_
  unfold k0F
  simp only [a0J,pnB,pnD,evD]
  repeat' (with_reducible first|refine Wx.h ?_|refine Wb.h fun K hK=>?_|(refine hK _ ?_;clear hK K)|((fail_if_success refine Wz.h ?_);simp (disch:=omega) only [↓LD,LA,a0A,seval,LEv]))
  all_goals refine b0q (l0s ⟨s,ver,now,out⟩ e ⟨by dsimp only;omega,by dsimp only;omega⟩) rfl rfl (fun _=>rfl) (fun _=>rfl) (fun _=>rfl) (fun _=>rfl) ?_
  repeat' (with_reducible first|refine Wx.h ?_|refine We.h fun K hK=>?_|(refine hK _ _ _ _ ?_;clear hK K;try clear hM M)|refine Wb.h fun K hK=>?_|(refine hK _ ?_;clear hK K)|(refine Wy.h ?_ ?_;kernel_rfl)|refine Wq.h ?_ ?_<;>intro h|((fail_if_success refine Wz.h ?_);simp (disch:=omega) only [↓LD,LA,a0A,seval,LEv,pnB,pnD,evD,List.set_cons_zero]))
  · have h2:200<s.id+1:=by assumption
    refine a0O (Wk12.app (ho.wk1 (by omega)) (e:={ a0W ⟨s,ver,now,out⟩ e with id:=2 }) hn) rfl rfl rfl ?_
    repeat' (with_reducible first|refine Wx.h ?_|refine We.h fun K hK=>?_|(refine hK _ _ _ _ ?_;clear hK K;try clear hM M)|refine Wb.h fun K hK=>?_|(refine hK _ ?_;clear hK K)|(refine Wy.h ?_ ?_;kernel_rfl)|refine Wq.h ?_ ?_<;>intro h|((fail_if_success refine Wz.h ?_);simp (disch:=omega) only [↓LD,LA,a0A,seval,stD]))
    · have hb:a0P ⟨s,ver,now,out⟩ e=(2,⟨s,ver,now,out⟩):=by unfold a0P;rw [if_pos h2,if_neg (fun hh=>hh (by assumption))]
      rw [hb] at hQ
      exact end1 rfl rfl (by kernel_rfl) .f (hQ _ _ rfl rfl)
    · have hb:a0P ⟨s,ver,now,out⟩ e=((a0H { s with id:=1 } { a0W ⟨s,ver,now,out⟩ e with id:=2 }).1,⟨s,ver,now,out⟩):=by unfold a0P;rw [if_pos h2,if_pos (by assumption)]
      rw [hb] at hQ
      exact end1 rfl rfl (by kernel_rfl) .f (hQ _ _ rfl rfl)
  rotate_left
  · have h2:¬ 200<s.id+1:=by assumption
    have hb:a0P ⟨s,ver,now,out⟩ e=((a0H s (a0W ⟨s,ver,now,out⟩ e)).1,⟨s,ver,now,out⟩):=by unfold a0P;rw [if_neg h2,if_pos (by assumption)]
    rw [hb] at hQ
    exact end1 rfl rfl (by kernel_rfl) .f (hQ _ _ rfl rfl)
  have h2:¬ 200<s.id+1:=by assumption
  have h3:(a0H s (a0W ⟨s,ver,now,out⟩ e)).1=0:=by assumption
  have hb:a0P ⟨s,ver,now,out⟩ e=endP ⟨s,ver,now,out⟩ (a0H s (a0W ⟨s,ver,now,out⟩ e)).2 (a0W ⟨s,ver,now,out⟩ e):=by unfold a0P;rw [if_neg h2,if_neg (fun hh=>hh h3)]
  rw [hb] at hQ
  clear hb
  have ho2:=d0N ho hn.2.2.2 h3
  have hid2:=ho2.id
  have hnl:=ho2.wk.fit.fit.nodes
  haveI:Kn (Wk12 (a0H s (a0W ⟨s,ver,now,out⟩ e)).2):=⟨ho2.wk⟩
  generalize (a0H s (a0W ⟨s,ver,now,out⟩ e)).1=v1 at *
  generalize (a0H s (a0W ⟨s,ver,now,out⟩ e)).2=s1 at *
  generalize a0W ⟨s,ver,now,out⟩ e=e1 at *
  refine a0C (q0i s1 hnl) rfl rfl rfl ?_
  have hek:=g0c s1
  have hn2:FitV (a0W ⟨s1,ver,now,out⟩ (ev0 (a0Y s1))):=⟨by simp [a0W,ev0],by simp [a0W,ev0],⟨by simp [a0W,ev0],by simp [a0W,ev0]⟩⟩
  haveI:Kn (FitV (a0W ⟨s1,ver,now,out⟩ (ev0 (a0Y s1)))):=⟨hn2⟩
  repeat' (with_reducible first|refine Wa.h ?_|refine Ws.h ?_|refine Wb.h fun K hK=>?_|(refine hK _ ?_;clear hK K)|refine Wq.h ?_ ?_<;>intro h|((fail_if_success refine Wz.h ?_);first|simp (disch:=omega) only [↓LD,LA,a0A,seval,LEv,a0K]|(refine And.intro ?_ ?_;omega)|fail))
  · have h5:a0Y s1=0:=by assumption
    have hb:endP ⟨s,ver,now,out⟩ s1 e1=(0,⟨s1,ver,now,out++[e1]⟩):=by unfold endP;rw [if_neg (fun hh=>hh h5)]
    obtain rfl:out=[]:=List.eq_nil_of_length_eq_zero (by assumption)
    rw [hb] at hQ
    refine HS.view (View.fixb (xs:=[D.int s1.id,D.int s1.ver,D.int s1.time,D.int s1.closed,D.bool s1.cancel,.f (fG s1.defs),.f (fNn s1.nodes),.f (fTm s1.tms),.f (fSg s1.sgs),D.int ver,D.int now,.sl 5 0 1]) (ys:=([]++[e1]).flatMap Ev.cs) 0 11 5 rfl rfl rfl n0J (by omega) a0K (by omega)) ?_
    repeat' (with_reducible first|refine Wx.h ?_|fail)
    exact end1 rfl rfl (by kernel_rfl) .f (hQ _ _ rfl rfl)
  · have h5:a0Y s1=0:=by assumption
    have hb:endP ⟨s,ver,now,out⟩ s1 e1=(0,⟨s1,ver,now,out++[e1]⟩):=by unfold endP;rw [if_neg (fun hh=>hh h5)]
    rw [hb] at hQ
    rw [h1k,show out.length+1=(out++[e1]).length by simp]
    refine HS.view (View.fixb 0 11 6 rfl rfl rfl n0J (by simp) a0K (by omega)) ?_
    repeat' (with_reducible first|refine Wx.h ?_|fail)
    exact end1 rfl rfl (by kernel_rfl) .f (hQ _ _ rfl rfl)
  refine d0Z (args0:=[.pt 0 0,evD (ev0 (a0Y s1))]) ?_ (by repeat' (first|exact WDs.nil|refine WDs.cons ?_ ?_|exact WD.refl|exact WD.f .ns|exact WD.f .es|refine WD.ags ?_|refine WD.f (WF.ls ?_)|exact WFs.nil|refine WFs.cons ?_ ?_|exact WF.refl|exact WF.ns|exact WF.es))
  refine b0q (l0s ⟨s1,ver,now,out⟩ (ev0 (a0Y s1)) ⟨by dsimp only;omega,by dsimp only;omega⟩) rfl rfl (fun _=>rfl) (fun _=>rfl) (fun _=>rfl) (fun _=>rfl) ?_
  have h5:¬ a0Y s1=0:=by assumption
  have hb:endP ⟨s,ver,now,out⟩ s1 e1=if 200<s1.id+1 then (2,⟨s,ver,now,out⟩) else if (a0H s1 (a0W ⟨s1,ver,now,out⟩ (ev0 (a0Y s1)))).1≠0 then ((a0H s1 (a0W ⟨s1,ver,now,out⟩ (ev0 (a0Y s1)))).1,⟨s,ver,now,out⟩)
     else (0,⟨(a0H s1 (a0W ⟨s1,ver,now,out⟩ (ev0 (a0Y s1)))).2,ver,now,out++[e1,a0W ⟨s1,ver,now,out⟩ (ev0 (a0Y s1))]⟩):=by unfold endP;rw [if_pos h5]
  rw [hb] at hQ
  clear hb
  have hni:(a0W ⟨s1,ver,now,out⟩ (ev0 (a0Y s1))).id=s1.id+1:=rfl
  generalize a0W ⟨s1,ver,now,out⟩ (ev0 (a0Y s1))=e2 at *
  repeat' (with_reducible first|refine Wa.h ?_|refine Ws.h ?_|refine We.h fun K hK=>?_|(refine hK _ _ _ _ ?_;clear hK K;try clear hM M)|refine Wb.h fun K hK=>?_|(refine hK _ ?_;clear hK K)|(refine Wy.h ?_ ?_;kernel_rfl)|refine Wq.h ?_ ?_<;>intro h|((fail_if_success refine Wz.h ?_);first|simp (disch:=omega) only [↓LD,LA,a0A,seval,LEv,a0K,pnB,pnD,evD]|(refine And.intro ?_ ?_;omega)|fail))
  · rw [if_pos (show 200<s1.id+1 by omega)] at hQ
    repeat' (with_reducible first|refine Wx.h ?_|fail)
    exact end1 rfl rfl (by kernel_rfl) .f (hQ _ _ rfl rfl)
  · rw [if_neg (show ¬ 200<s1.id+1 by omega),if_neg (fun hh=>hh (show (a0H s1 e2).1=0 by assumption))] at hQ
    obtain rfl:out=[]:=List.eq_nil_of_length_eq_zero (by assumption)
    refine HS.view (View.fixb (xs:=[D.int (a0H s1 e2).2.id,D.int (a0H s1 e2).2.ver,D.int (a0H s1 e2).2.time,D.int (a0H s1 e2).2.closed,D.bool (a0H s1 e2).2.cancel,.f (fG (a0H s1 e2).2.defs),.f (fNn (a0H s1 e2).2.nodes),.f (fTm (a0H s1 e2).2.tms),.f (fSg (a0H s1 e2).2.sgs),D.int ver,D.int now,.sl 8 0 2]) (ys:=([]++[e1,e2]).flatMap Ev.cs) 0 11 8 rfl rfl rfl n0J (by omega) a0K (by omega)) ?_
    repeat' (with_reducible first|refine Wx.h ?_|fail)
    exact end1 rfl rfl (by kernel_rfl) .f (hQ _ _ rfl rfl)
  · rw [if_neg (show ¬ 200<s1.id+1 by omega),if_neg (fun hh=>hh (show (a0H s1 e2).1=0 by assumption))] at hQ
    rw [g1f,show out.length+2=(out++[e1,e2]).length by simp]
    refine HS.view (View.fixb 0 11 9 rfl rfl rfl n0J (by simp) a0K (by omega)) ?_
    repeat' (with_reducible first|refine Wx.h ?_|fail)
    exact end1 rfl rfl (by kernel_rfl) .f (hQ _ _ rfl rfl)
  · rw [if_neg (show ¬ 200<s1.id+1 by omega),if_pos (show (a0H s1 e2).1≠0 by assumption)] at hQ
    repeat' (with_reducible first|refine Wx.h ?_|fail)
    exact end1 rfl rfl (by kernel_rfl) .f (hQ _ _ rfl rfl)
instance:Kn (([]:Bs).length≤1000000):=⟨by simp⟩
instance:Kn (Fit []):=⟨by simp [Fit]⟩
instance {s:S12}{ver now:Int}{out:List Ev}{H:List Row}{K:D→List Row→Prop}{a b c ty node n:Int}{nm dt df:D}{nm' dt':Bs}{df':List Nd}[h1:StrC nm nm'][h2:DatC dt dt'][h3:DefC df df'][ho:Kn (Ok12 s)][hl:Kn (out.length≤1000000)][k1:Kn (nm'.length≤1000000)][k2:Kn (dt'.length≤1000000)][k3:Kn (Fit df')] :
  Wa (a0T Tryz.prog (.fn 132 []) [.pt 0 0,.ag [.f (.v (.int .i64 a)),.f (.v (.int .i64 b)),.f (.v (.int .i64 c)),.f (.v (.int .i64 ty)),.f (.v (.int .i64 node)),.f (.v (.int .i64 n)),nm,dt,df]]
   (.box 121 [.f (.v (.int .i64 s.id)),.f (.v (.int .i64 s.ver)),.f (.v (.int .i64 s.time)),.f (.v (.int .i64 s.closed)),.f (.v (.bool s.cancel)),.f (fG s.defs),.f (fNn s.nodes),.f (fTm s.tms),.f (fSg s.sgs),.f (.v (.int .i64 ver)),.f (.v (.int .i64 now)),.f (fEv out)] :: H) K)
  (K (.f (.v (.int .i64 (a0P ⟨s,ver,now,out⟩ ⟨a,b,c,ty,node,n,nm',dt',df'⟩).1))) (pnB (a0P ⟨s,ver,now,out⟩ ⟨a,b,c,ty,node,n,nm',dt',df'⟩).2 :: H)):=⟨fun h=>by
 obtain ⟨h1⟩:=h1;obtain ⟨h2⟩:=h2;obtain ⟨h3⟩:=h3
 subst h1
 refine d0Z (args0:=[.pt 0 0,evD ⟨a,b,c,ty,node,n,nm',dt',df'⟩]) ?_ (.cons .refl (.cons (WD.ags (.cons .refl (.cons .refl (.cons .refl (.cons .refl (.cons .refl (.cons .refl (.cons .refl (.cons h2 (.cons h3 .nil)))))))))) .nil))
 exact b0q (t0r ⟨s,ver,now,out⟩ ⟨a,b,c,ty,node,n,nm',dt',df'⟩ ho.h ⟨k2.h,k1.h,k3.h⟩ hl.h) rfl rfl (fun _=>rfl) (fun _=>rfl) (fun _=>rfl) (fun _=>rfl) h⟩
def g0T (s:S12):Int:=if s.id=0 then 3 else if s.closed≠0 then 12 else 0
theorem y0S (p:Pn):Con Tryz.prog 153 [.pt 0 0] [pnB p] fun r H'=>r=D.int (g0T p.s)∧H'=[pnB p]:=by
 refine Con.walk good u0P (by simp) ?_
 unfold n0e
 simp only [a0J,pnB,pnD]
 repeat' (with_reducible first|refine Wx.h ?_|refine Wb.h fun K hK=>?_|(refine hK _ ?_;clear hK K)|refine Wq.h ?_ ?_<;>intro h|((fail_if_success refine Wz.h ?_);simp (disch:=omega) only [↓LD,LA,a0A,seval]))
 all_goals (refine end1 rfl rfl (by kernel_rfl) .f ⟨congrArg D.int ?_,rfl⟩;simp [g0T, *])
instance {s:S12}{ver now:Int}{out:List Ev}{H:List Row}{K:D→List Row→Prop} :
  Wa (a0T Tryz.prog (.fn 153 []) [.pt 0 0]
   (.box 121 [.f (.v (.int .i64 s.id)),.f (.v (.int .i64 s.ver)),.f (.v (.int .i64 s.time)),.f (.v (.int .i64 s.closed)),.f (.v (.bool s.cancel)),.f (fG s.defs),.f (fNn s.nodes),.f (fTm s.tms),.f (fSg s.sgs),.f (.v (.int .i64 ver)),.f (.v (.int .i64 now)),.f (fEv out)] :: H) K)
  (K (.f (.v (.int .i64 (g0T s)))) (.box 121 [.f (.v (.int .i64 s.id)),.f (.v (.int .i64 s.ver)),.f (.v (.int .i64 s.time)),.f (.v (.int .i64 s.closed)),.f (.v (.bool s.cancel)),.f (fG s.defs),.f (fNn s.nodes),.f (fTm s.tms),.f (fSg s.sgs),.f (.v (.int .i64 ver)),.f (.v (.int .i64 now)),.f (fEv out)] :: H)):=⟨fun h =>
 b0q (y0S ⟨s,ver,now,out⟩) rfl rfl (fun _=>rfl) (fun _=>rfl) (fun _=>rfl) (fun _=>rfl) h⟩
instance {s:S12}{H:List Row}{K:D→List Row→Prop}[hs:Kn (Wk12 s)]:Wa (a0T Tryz.prog (.fn 147 []) [.ag [.f (.v (.int .i64 s.id)),.f (.v (.int .i64 s.ver)),.f (.v (.int .i64 s.time)),.f (.v (.int .i64 s.closed)),.f (.v (.bool s.cancel)),.f (fG s.defs),.f (fNn s.nodes),.f (fTm s.tms),.f (fSg s.sgs)]] H K)
  (K (.f (fI (a0e s))) H):=⟨fun h=>a0C (g0U s hs.h.fit.defs hs.h.pos hs.h.fit.fit.nodes hs.h.len) rfl rfl rfl h⟩
instance {s:S12}{nm:Bs}{H:List Row}{K:D→List Row→Prop}[hs:Kn (Wk12 s)]:Wa (a0T Tryz.prog (.fn 30 []) [.ag [.f (.v (.int .i64 s.id)),.f (.v (.int .i64 s.ver)),.f (.v (.int .i64 s.time)),.f (.v (.int .i64 s.closed)),.f (.v (.bool s.cancel)),.f (fG s.defs),.f (fNn s.nodes),.f (fTm s.tms),.f (fSg s.sgs)],.f (.v (.string (BB nm)))] H K)
  (K (.f (.v (.bool (c0s s.sgs nm)))) H):=⟨fun h=>a0C (r0U s nm hs.h.fit.fit.sgs) rfl rfl rfl h⟩
def b0m (p:Pn)(ds:List Nd):Int × Pn:=if 0<p.s.id then (13,p) else if a0t ds≠0 then (a0t ds,p) else a0P p ⟨0,0,0,1,0,0,[],[],ds⟩
theorem end3 {n0 n t u v:Nat}{e:List (Nat × D)}{H:List Row}{dr:List Nat}{d f g:F}{Q:D→List Row→Prop}(ht:Nat.blt t n=true)(hu:Nat.blt u n=true)(hv:Nat.blt v n=true)(h:look t e = .f d)(k:look u e = .f f)(m:look v e = .f g)(hl:lowB n0 (H.take n0)=true)(q:Q (.tp [.f d,.f f,.f g]) (H.take n0)):RetS n0 [.t t,.t u,.t v] Q ⟨frm n e,H,dr⟩:=by
 refine .still (ds:=[.f d,.f f,.f g]) ?_ hl (.tps (.cons .f (.cons .f (.cons .f .nil)))) q
 simp only [resS]
 rw [b0f (by simpa using ht),b0f (by simpa using hu),b0f (by simpa using hv),h,k,m]
theorem f0B (p:Pn)(ds:List Nd)(ho:Ok12 p.s)(hl:p.out.length≤1000000)(hf:Fit ds):Con Tryz.prog 89 [.pt 0 0,.f (fG ds)] [pnB p] fun r H'=>r=D.int (b0m p ds).1∧H'=[pnB (b0m p ds).2]:=by
 obtain ⟨s,ver,now,out⟩:=p
 suffices hh:∀ Q:D→List Row→Prop,(∀ r H',r=D.int (b0m ⟨s,ver,now,out⟩ ds).1→H'=[pnB (b0m ⟨s,ver,now,out⟩ ds).2]→Q r H')→Con Tryz.prog 89 [.pt 0 0,.f (fG ds)] [pnB ⟨s,ver,now,out⟩] Q from hh _ fun _ _ h1 h2=>⟨h1,h2⟩
 intro Q hQ
 dsimp only at ho hl
 haveI:Kn (Ok12 s):=⟨ho⟩
 haveI:Kn (Wk12 s):=⟨ho.wk⟩
 haveI:Kn (out.length≤1000000):=⟨hl⟩
 haveI:Kn (Fit ds):=⟨hf⟩
 refine Con.walk good q0b (by simp) ?_
 unfold j0X
 simp only [a0J,pnB,pnD]
 repeat' (with_reducible first|refine Wx.h ?_|refine Wb.h fun K hK=>?_|(refine hK _ ?_;clear hK K)|refine Wq.h ?_ ?_<;>intro h|((fail_if_success refine Wz.h ?_);simp (disch:=omega) only [↓LD,LA,a0A,seval]))
 all_goals exact end1 rfl rfl (by kernel_rfl) .f (hQ _ _ (by simp only [b0m,ne_eq, *,not_false_eq_true,not_true_eq_false,↓reduceIte,or_true,true_or,or_false,false_or,or_self,Bool.false_eq_true,Bool.true_eq_false,and_true,true_and,and_false,false_and]<;>rfl) (by simp only [b0m,ne_eq, *,not_false_eq_true,not_true_eq_false,↓reduceIte,or_true,true_or,or_false,false_or,or_self,Bool.false_eq_true,Bool.true_eq_false,and_true,true_and,and_false,false_and]<;>rfl))
theorem c1q {s:S12}(h:Ok12 s)(hn:(a0e s).length≠0):0≤gt (a0e s) 0∧gt (a0e s) 0<s.nodes.length∧0≤(gt s.nodes (gt (a0e s) 0).toNat).tr∧(gt s.nodes (gt (a0e s) 0).toNat).tr≤5:=by
 have hm:=a0M (l:=a0e s) (k:=0) (by omega)
 have h1:=q0M hm
 have h2:=g0N h1.2.2.2.2
 have h3:=h.tr _ (a0M (l:=s.nodes) (k:=(gt (a0e s) 0).toNat) (by omega))
 exact ⟨by omega,h1.1,h3.1,h3.2⟩
def tri (x:Int × Int × Int):List D:=[D.int x.1,D.int x.2.1,D.int x.2.2]
def b0r (p:Pn):(Int × Int × Int) × Pn :=
 if g0T p.s≠0 then ((0,0,g0T p.s),p) else if ((a0e p.s).length:Int)=0 then ((0,0,3),p)
 else if (a0P p ⟨0,0,0,2,gt (a0e p.s) 0,(gt p.s.nodes (gt (a0e p.s) 0).toNat).tr+1,[],[],[]⟩).1≠0 then ((0,0,(a0P p ⟨0,0,0,2,gt (a0e p.s) 0,(gt p.s.nodes (gt (a0e p.s) 0).toNat).tr+1,[],[],[]⟩).1),(a0P p ⟨0,0,0,2,gt (a0e p.s) 0,(gt p.s.nodes (gt (a0e p.s) 0).toNat).tr+1,[],[],[]⟩).2)
 else ((gt (a0e p.s) 0,(gt p.s.nodes (gt (a0e p.s) 0).toNat).tr+1,0),(a0P p ⟨0,0,0,2,gt (a0e p.s) 0,(gt p.s.nodes (gt (a0e p.s) 0).toNat).tr+1,[],[],[]⟩).2)
theorem u0V (p:Pn)(ho:Ok12 p.s)(hl:p.out.length≤1000000):Con Tryz.prog 115 [.pt 0 0] [pnB p] fun r H'=>r = .tp (tri (b0r p).1)∧H'=[pnB (b0r p).2]:=by
 obtain ⟨s,ver,now,out⟩:=p
 suffices hh:∀ Q:D→List Row→Prop,(∀ r H',r = .tp (tri (b0r ⟨s,ver,now,out⟩).1)→H'=[pnB (b0r ⟨s,ver,now,out⟩).2]→Q r H')→Con Tryz.prog 115 [.pt 0 0] [pnB ⟨s,ver,now,out⟩] Q from hh _ fun _ _ h1 h2=>⟨h1,h2⟩
 intro Q hQ
 dsimp only at ho hl
 haveI:Kn (Ok12 s):=⟨ho⟩
 haveI:Kn (Wk12 s):=⟨ho.wk⟩
 haveI:Kn (out.length≤1000000):=⟨hl⟩
 have hg:=fun h=>c1q ho h
 refine Con.walk good s0T (by simp) ?_
 unfold j0u
 simp only [a0J,pnB,pnD]
 repeat' (with_reducible first|refine Wx.h ?_|refine We.h fun K hK=>?_|(refine hK _ _ _ _ ?_;clear hK K;try clear hM M)|refine Wb.h fun K hK=>?_|(refine hK _ ?_;clear hK K)|(refine Wy.h ?_ ?_;kernel_rfl)|refine Wq.h ?_ ?_<;>intro h|((fail_if_success refine Wz.h ?_);first|simp (disch:=omega) only [↓LD,LA,a0A,seval,LSt,g0s,a0k,Nn.cs]|(refine And.intro ?_ ?_;omega)|fail))
 all_goals exact end3 rfl rfl rfl rfl rfl rfl (by kernel_rfl) (hQ _ _ (by simp only [b0r,tri,ne_eq, *,not_false_eq_true,not_true_eq_false,↓reduceIte,or_true,true_or,or_false,false_or,or_self,Bool.false_eq_true,Bool.true_eq_false,and_true,true_and,and_false,false_and]<;>rfl) (by simp only [b0r,tri,ne_eq, *,not_false_eq_true,not_true_eq_false,↓reduceIte,or_true,true_or,or_false,false_or,or_self,Bool.false_eq_true,Bool.true_eq_false,and_true,true_and,and_false,false_and]<;>rfl))
def b0M (p:Pn)(node try_:Int)(ok:Bool)(data:Bs):Int × Pn :=
 if g0T p.s≠0 then (g0T p.s,p) else if node<0 then (1,p) else if (p.s.nodes.length:Int)≤node then (1,p) else if (40:Int)<data.length then (1,p) else if ok=false∧(0:Int)<data.length then (1,p)
 else if ¬ (gt p.s.nodes node.toNat).st=1 then (4,p) else if ¬ (gt p.s.nodes node.toNat).tr=try_ then (4,p)
 else if ok=true then a0P p ⟨0,0,0,3,node,try_,[],data,[]⟩ else a0P p ⟨0,0,0,4,node,try_,[],[],[]⟩
theorem s0P (p:Pn)(node:Int)(try_:Int)(ok:Bool)(data:Bs)(ho:Ok12 p.s)(hl:p.out.length≤1000000)(hd:data.length≤1000000):Con Tryz.prog 116 [.pt 0 0,D.int node,D.int try_,D.bool ok,.f (fY data)] [pnB p] fun r H'=>r=D.int (b0M p node try_ ok data).1∧H'=[pnB (b0M p node try_ ok data).2]:=by
 obtain ⟨s,ver,now,out⟩:=p
 suffices hh:∀ Q:D→List Row→Prop,(∀ r H',r=D.int (b0M ⟨s,ver,now,out⟩ node try_ ok data).1→H'=[pnB (b0M ⟨s,ver,now,out⟩ node try_ ok data).2]→Q r H')→Con Tryz.prog 116 [.pt 0 0,D.int node,D.int try_,D.bool ok,.f (fY data)] [pnB ⟨s,ver,now,out⟩] Q from hh _ fun _ _ h1 h2=>⟨h1,h2⟩
 intro Q hQ
 dsimp only at ho hl
 haveI:Kn (Ok12 s):=⟨ho⟩
 haveI:Kn (Wk12 s):=⟨ho.wk⟩
 haveI:Kn (out.length≤1000000):=⟨hl⟩
 haveI:Kn (data.length≤1000000):=⟨hd⟩
 refine Con.walk good n0s (by simp) ?_
 unfold h0J
 simp only [a0J,pnB,pnD]
 cases ok
 all_goals
  repeat' (with_reducible first|refine Wx.h ?_|refine Wb.h fun K hK=>?_|(refine hK _ ?_;clear hK K)|refine Wq.h ?_ ?_<;>intro h|((fail_if_success refine Wz.h ?_);first|simp (disch:=omega) only [↓LD,LA,a0A,seval,LSt,b0v,g0s,a0k,Nn.cs]|(refine And.intro ?_ ?_;omega)|fail))
 all_goals exact end1 rfl rfl (by kernel_rfl) .f (hQ _ _ (by simp only [b0M,ne_eq, *,not_false_eq_true,not_true_eq_false,↓reduceIte,or_true,true_or,or_false,false_or,or_self,Bool.false_eq_true,Bool.true_eq_false,and_true,true_and,and_false,false_and]<;>rfl) (by simp only [b0M,ne_eq, *,not_false_eq_true,not_true_eq_false,↓reduceIte,or_true,true_or,or_false,false_or,or_self,Bool.false_eq_true,Bool.true_eq_false,and_true,true_and,and_false,false_and]<;>rfl))
def armP (p:Pn)(name:Bs)(span:Int):Int × Pn :=
 if g0T p.s≠0 then (g0T p.s,p) else if (!e0W name)=true then (1,p) else if span<1 then (1,p) else if 1048576<span then (1,p) else a0P p ⟨0,0,0,5,0,span,name,[],[]⟩
theorem b1x (p:Pn)(name:Bs)(span:Int)(ho:Ok12 p.s)(hl:p.out.length≤1000000)(hd:name.length≤1000000):Con Tryz.prog 118 [.pt 0 0,.f (.v (.string (BB name))),D.int span] [pnB p] fun r H'=>r=D.int (armP p name span).1∧H'=[pnB (armP p name span).2]:=by
 obtain ⟨s,ver,now,out⟩:=p
 suffices hh:∀ Q:D→List Row→Prop,(∀ r H',r=D.int (armP ⟨s,ver,now,out⟩ name span).1→H'=[pnB (armP ⟨s,ver,now,out⟩ name span).2]→Q r H')→Con Tryz.prog 118 [.pt 0 0,.f (.v (.string (BB name))),D.int span] [pnB ⟨s,ver,now,out⟩] Q from hh _ fun _ _ h1 h2=>⟨h1,h2⟩
 intro Q hQ
 dsimp only at ho hl
 haveI:Kn (Ok12 s):=⟨ho⟩
 haveI:Kn (Wk12 s):=⟨ho.wk⟩
 haveI:Kn (out.length≤1000000):=⟨hl⟩
 haveI:Kn (name.length≤1000000):=⟨hd⟩
 refine Con.walk good y0m (by simp) ?_
 unfold r0o
 simp only [a0J,pnB,pnD]
 repeat' (with_reducible first|refine Wx.h ?_|refine Wb.h fun K hK=>?_|(refine hK _ ?_;clear hK K)|refine Wq.h ?_ ?_<;>intro h|refine Wu.h ?_ ?_<;>intro h<;>try simp only [h]|((fail_if_success refine Wz.h ?_);first|simp (disch:=omega) only [↓LD,LA,a0A,seval]|(refine And.intro ?_ ?_;omega)|fail))
 all_goals exact end1 rfl rfl (by kernel_rfl) .f (hQ _ _ (by simp only [armP,ne_eq, *,not_false_eq_true,not_true_eq_false,↓reduceIte,or_true,true_or,or_false,false_or,or_self,Bool.false_eq_true,Bool.true_eq_false,and_true,true_and,and_false,false_and]<;>rfl) (by simp only [armP,ne_eq, *,not_false_eq_true,not_true_eq_false,↓reduceIte,or_true,true_or,or_false,false_or,or_self,Bool.false_eq_true,Bool.true_eq_false,and_true,true_and,and_false,false_and]<;>rfl))
def a0u (p:Pn)(name data:Bs):(Bool × Int) × Pn :=
 if p.s.id=0 then ((false,3),p) else if (!e0W name)=true then ((false,1),p) else if (40:Int)<data.length then ((false,1),p) else if c0s p.s.sgs name=true then ((false,0),p) else if p.s.closed≠0 then ((false,12),p)
 else if (a0P p ⟨0,0,0,7,0,0,name,data,[]⟩).1≠0 then ((false,(a0P p ⟨0,0,0,7,0,0,name,data,[]⟩).1),(a0P p ⟨0,0,0,7,0,0,name,data,[]⟩).2) else ((true,0),(a0P p ⟨0,0,0,7,0,0,name,data,[]⟩).2)
def duo (x:Bool × Int):List D:=[D.bool x.1,D.int x.2]
theorem e0M (p:Pn)(name:Bs)(data:Bs)(ho:Ok12 p.s)(hl:p.out.length≤1000000)(hn:name.length≤1000000)(hd:data.length≤1000000):Con Tryz.prog 91 [.pt 0 0,.f (.v (.string (BB name))),.f (fY data)] [pnB p] fun r H'=>r = .tp (duo (a0u p name data).1)∧H'=[pnB (a0u p name data).2]:=by
 obtain ⟨s,ver,now,out⟩:=p
 suffices hh:∀ Q:D→List Row→Prop,(∀ r H',r = .tp (duo (a0u ⟨s,ver,now,out⟩ name data).1)→H'=[pnB (a0u ⟨s,ver,now,out⟩ name data).2]→Q r H')→Con Tryz.prog 91 [.pt 0 0,.f (.v (.string (BB name))),.f (fY data)] [pnB ⟨s,ver,now,out⟩] Q from hh _ fun _ _ h1 h2=>⟨h1,h2⟩
 intro Q hQ
 dsimp only at ho hl
 haveI:Kn (Ok12 s):=⟨ho⟩
 haveI:Kn (Wk12 s):=⟨ho.wk⟩
 haveI:Kn (out.length≤1000000):=⟨hl⟩
 haveI:Kn (name.length≤1000000):=⟨hn⟩
 haveI:Kn (data.length≤1000000):=⟨hd⟩
 refine Con.walk good o0k (by simp) ?_
 unfold h0T
 simp only [a0J,pnB,pnD]
 repeat' (with_reducible first|refine Wx.h ?_|refine Wb.h fun K hK=>?_|(refine hK _ ?_;clear hK K)|refine Wq.h ?_ ?_<;>intro h|refine Wu.h ?_ ?_<;>intro h<;>try simp only [h]|((fail_if_success refine Wz.h ?_);first|simp (disch:=omega) only [↓LD,LA,a0A,seval]|(refine And.intro ?_ ?_;omega)|fail))
 all_goals exact end2 rfl rfl rfl rfl (by kernel_rfl) (.tps (.cons .f (.cons .f .nil))) (hQ _ _ (by simp only [a0u,duo,ne_eq, *,not_false_eq_true,not_true_eq_false,↓reduceIte,or_true,true_or,or_false,false_or,or_self,Bool.false_eq_true,Bool.true_eq_false,and_true,true_and,and_false,false_and]<;>rfl) (by first|(unfold a0u;rw [if_pos (by assumption)];try rfl)|simp only [a0u,duo,ne_eq, *,not_false_eq_true,not_true_eq_false,↓reduceIte,or_true,true_or,or_false,false_or,or_self,Bool.false_eq_true,Bool.true_eq_false,and_true,true_and,and_false,false_and]<;>rfl))
def b0Z (p:Pn):Int × Pn:=if g0T p.s≠0 then (g0T p.s,p) else a0P p ⟨0,0,0,8,0,0,[],[],[]⟩
theorem q0r (p:Pn)(ho:Ok12 p.s)(hl:p.out.length≤1000000):Con Tryz.prog 120 [.pt 0 0] [pnB p] fun r H'=>r=D.int (b0Z p).1∧H'=[pnB (b0Z p).2]:=by
 obtain ⟨s,ver,now,out⟩:=p
 suffices hh:∀ Q:D→List Row→Prop,(∀ r H',r=D.int (b0Z ⟨s,ver,now,out⟩).1→H'=[pnB (b0Z ⟨s,ver,now,out⟩).2]→Q r H')→Con Tryz.prog 120 [.pt 0 0] [pnB ⟨s,ver,now,out⟩] Q from hh _ fun _ _ h1 h2=>⟨h1,h2⟩
 intro Q hQ
 dsimp only at ho hl
 haveI:Kn (Ok12 s):=⟨ho⟩
 haveI:Kn (Wk12 s):=⟨ho.wk⟩
 haveI:Kn (out.length≤1000000):=⟨hl⟩
 refine Con.walk good o0i (by simp) ?_
 unfold h0L
 simp only [a0J,pnB,pnD]
 repeat' (with_reducible first|refine Wx.h ?_|refine Wb.h fun K hK=>?_|(refine hK _ ?_;clear hK K)|refine Wq.h ?_ ?_<;>intro h|((fail_if_success refine Wz.h ?_);simp (disch:=omega) only [↓LD,LA,a0A,seval]))
 all_goals exact end1 rfl rfl (by kernel_rfl) .f (hQ _ _ (by simp only [b0Z,ne_eq, *,not_false_eq_true,not_true_eq_false,↓reduceIte,or_true,true_or,or_false,false_or,or_self,Bool.false_eq_true,Bool.true_eq_false,and_true,true_and,and_false,false_and]<;>rfl) (by simp only [b0Z,ne_eq, *,not_false_eq_true,not_true_eq_false,↓reduceIte,or_true,true_or,or_false,false_or,or_self,Bool.false_eq_true,Bool.true_eq_false,and_true,true_and,and_false,false_and]<;>rfl))
def e0m (p:Pn):Int × Pn:=if g0T p.s≠0 then (g0T p.s,p) else a0P p ⟨0,0,0,12,0,0,[],[],[]⟩
theorem i0i (p:Pn)(ho:Ok12 p.s)(hl:p.out.length≤1000000):Con Tryz.prog 121 [.pt 0 0] [pnB p] fun r H'=>r=D.int (e0m p).1∧H'=[pnB (e0m p).2]:=by
 obtain ⟨s,ver,now,out⟩:=p
 suffices hh:∀ Q:D→List Row→Prop,(∀ r H',r=D.int (e0m ⟨s,ver,now,out⟩).1→H'=[pnB (e0m ⟨s,ver,now,out⟩).2]→Q r H')→Con Tryz.prog 121 [.pt 0 0] [pnB ⟨s,ver,now,out⟩] Q from hh _ fun _ _ h1 h2=>⟨h1,h2⟩
 intro Q hQ
 dsimp only at ho hl
 haveI:Kn (Ok12 s):=⟨ho⟩
 haveI:Kn (Wk12 s):=⟨ho.wk⟩
 haveI:Kn (out.length≤1000000):=⟨hl⟩
 refine Con.walk good h0n (by simp) ?_
 unfold e0B
 simp only [a0J,pnB,pnD]
 repeat' (with_reducible first|refine Wx.h ?_|refine Wb.h fun K hK=>?_|(refine hK _ ?_;clear hK K)|refine Wq.h ?_ ?_<;>intro h|((fail_if_success refine Wz.h ?_);simp (disch:=omega) only [↓LD,LA,a0A,seval]))
 all_goals exact end1 rfl rfl (by kernel_rfl) .f (hQ _ _ (by simp only [e0m,ne_eq, *,not_false_eq_true,not_true_eq_false,↓reduceIte,or_true,true_or,or_false,false_or,or_self,Bool.false_eq_true,Bool.true_eq_false,and_true,true_and,and_false,false_and]<;>rfl) (by simp only [e0m,ne_eq, *,not_false_eq_true,not_true_eq_false,↓reduceIte,or_true,true_or,or_false,false_or,or_self,Bool.false_eq_true,Bool.true_eq_false,and_true,true_and,and_false,false_and]<;>rfl))
def newE (l:List Ev)(ver now:Int):Int :=
 if (a0N s0 l).1≠0 then 1 else if (!verB ver)=true then 1 else if now<0 then 1 else if 1099511627776<now then 1 else if ver<(a0N s0 l).2.ver then 4 else 0
structure PnOk (b:S12)(p:Pn):Prop where
 base:Ok12 b
 ok:Ok12 p.s
 out:a0N b p.out=(0,p.s)
 fit:∀ e∈p.out,FitV e
theorem n0p:∀ {l:List Ev} {s:S12},(a0N s l).1=0→(a0N s l).2.id=s.id+l.length
 | [],s,_=>by simp [a0N]
 | e :: l,s,h=>by
  rw [a0N] at h ⊢
  by_cases a:(a0H s e).1=0
  ·rw [if_pos a] at h ⊢
   have h1:=n0p h
   obtain ⟨_,a2,_,_,_,_,_,a8⟩:=b0d a
   rw [h1,a8]
   simp only [List.length_cons]
   omega
  ·rw [if_neg a] at h;exact absurd h a
theorem PnOk.len {b:S12}{p:Pn}(h:PnOk b p):p.out.length≤200:=by
 have h1:=n0p (l:=p.out) (s:=b) (by rw [h.out])
 rw [h.out] at h1
 have h2:=h.ok.id
 have h3:=h.base.id
 dsimp only at h1
 omega
theorem a1W {b s t:S12}{l:List Ev}{e:Ev}(h:a0N b l=(0,s))(ha:(a0H s e).1=0)(ht:(a0H s e).2=t):a0N b (l++[e])=(0,t):=by
 rw [j0P (by rw [h]),h]
 dsimp only
 rw [a0N,if_pos ha,ht,a0N]
theorem PnOk.snoc {b s t:S12}{ver now:Int}{l:List Ev}{e:Ev}(h:PnOk b ⟨s,ver,now,l⟩)(he:FitV e)(ha:(a0H s e).1=0)(ht:(a0H s e).2=t):PnOk b ⟨t,ver,now,l++[e]⟩ :=
 ⟨h.base,by have:=d0N h.ok he.2.2.2 ha;rw [ht] at this;exact this,a1W h.out ha ht,fun x hx=>by
  rcases List.mem_append.1 hx with hx|hx
  ·exact h.fit x hx
  ·obtain rfl:=List.mem_singleton.1 hx;exact he⟩
theorem i1b (p:Pn)(k:Int):FitV (a0W p (ev0 k)):=⟨by simp [a0W,ev0],by simp [a0W,ev0],⟨by simp [a0W,ev0],by simp [a0W,ev0]⟩⟩
theorem e0P (p:Pn)(e:Ev):((a0P p e).1≠0∧(a0P p e).2=p) ∨
  ((a0P p e).1=0∧p.s.id<200∧(a0H p.s (a0W p e)).1=0∧a0Y (a0H p.s (a0W p e)).2=0∧(a0P p e).2={ p with s:=(a0H p.s (a0W p e)).2,out:=p.out++[a0W p e] }) ∨
  ((a0P p e).1=0∧p.s.id<200∧(a0H p.s (a0W p e)).1=0∧a0Y (a0H p.s (a0W p e)).2≠0∧∃ f,f=a0W { p with s:=(a0H p.s (a0W p e)).2 } (ev0 (a0Y (a0H p.s (a0W p e)).2))∧(a0H (a0H p.s (a0W p e)).2 f).1=0 ∧
   (a0P p e).2={ p with s:=(a0H (a0H p.s (a0W p e)).2 f).2,out:=p.out++[a0W p e,f] }):=by
 unfold a0P
 by_cases a1:200<p.s.id+1
 ·rw [if_pos a1]
  refine .inl ?_
  split
  ·exact ⟨by assumption,rfl⟩
  ·exact ⟨by simp,rfl⟩
 rw [if_neg a1]
 by_cases a2:(a0H p.s (a0W p e)).1≠0
 ·rw [if_pos a2];exact .inl ⟨a2,rfl⟩
 rw [if_neg a2]
 have a3:=Decidable.not_not.1 a2
 unfold endP
 by_cases a4:a0Y (a0H p.s (a0W p e)).2≠0
 ·rw [if_pos a4]
  by_cases a5:200<(a0H p.s (a0W p e)).2.id+1
  ·rw [if_pos a5];exact .inl ⟨by simp,rfl⟩
  rw [if_neg a5]
  by_cases a6:(a0H (a0H p.s (a0W p e)).2 (a0W { p with s:=(a0H p.s (a0W p e)).2 } (ev0 (a0Y (a0H p.s (a0W p e)).2)))).1≠0
  ·rw [if_pos a6];exact .inl ⟨a6,rfl⟩
  rw [if_neg a6]
  exact .inr (.inr ⟨rfl,by omega,a3,a4,_,rfl,Decidable.not_not.1 a6,rfl⟩)
 ·rw [if_neg a4]
  exact .inr (.inl ⟨rfl,by omega,a3,Decidable.not_not.1 a4,rfl⟩)
theorem b0G {b:S12}{p:Pn}{e:Ev}(h:PnOk b p)(he:FitV e):PnOk b (a0P p e).2:=by
 obtain ⟨s,ver,now,out⟩:=p
 have hn:FitV (a0W ⟨s,ver,now,out⟩ e):=he
 rcases e0P ⟨s,ver,now,out⟩ e with ⟨_,h2⟩|⟨_,_,h2,_,h3⟩|⟨_,_,h2,_,f,hf,h3,h4⟩
 ·rw [h2];exact h
 ·rw [h3];exact h.snoc hn h2 rfl
 ·rw [h4]
  have h1:=(h.snoc hn h2 rfl).snoc (by rw [hf];exact i1b _ _) h3 rfl
  rw [List.append_assoc] at h1
  exact h1
theorem c0B {a b c ty node n:Int}{nm dt:Bs}{df:List Nd}(h1:nm.length≤1000000)(h2:dt.length≤1000000)(h3:Fit df):FitV ⟨a,b,c,ty,node,n,nm,dt,df⟩:=⟨h2,h1,h3⟩
theorem c0Q:Fit []:=⟨by simp,by simp⟩
theorem a1g {b:S12}{p:Pn}{ds:List Nd}(h:PnOk b p)(hd:Fit ds):PnOk b (b0m p ds).2:=by
 unfold b0m
 split
 ·exact h
 ·split
  ·exact h
  ·exact b0G h (c0B (by simp) (by simp) hd)
theorem z0l {b:S12}{p:Pn}(h:PnOk b p):PnOk b (b0r p).2:=by
 unfold b0r
 split
 ·exact h
 ·split
  ·exact h
  ·split<;>exact b0G h (c0B (by simp) (by simp) c0Q)
theorem y0O {b:S12}{p:Pn}{i t:Int}{ok:Bool}{d:Bs}(h:PnOk b p)(hd:d.length≤1000000):PnOk b (b0M p i t ok d).2:=by
 unfold b0M
 repeat' split
 all_goals first|exact h|exact b0G h (c0B (by simp) hd c0Q)|exact b0G h (c0B (by simp) (by simp) c0Q)
theorem g1q {b:S12}{p:Pn}{nm:Bs}{t:Int}(h:PnOk b p)(hn:nm.length≤1000000):PnOk b (armP p nm t).2:=by
 unfold armP
 repeat' split
 all_goals first|exact h|exact b0G h (c0B hn (by simp) c0Q)
theorem z0B {b:S12}{p:Pn}{nm d:Bs}(h:PnOk b p)(hn:nm.length≤1000000)(hd:d.length≤1000000):PnOk b (a0u p nm d).2:=by
 unfold a0u
 repeat' split
 all_goals first|exact h|exact b0G h (c0B hn hd c0Q)
theorem y0p {b:S12}{p:Pn}(h:PnOk b p):PnOk b (b0Z p).2:=by
 unfold b0Z
 split
 ·exact h
 ·exact b0G h (c0B (by simp) (by simp) c0Q)
theorem d1d {b:S12}{p:Pn}(h:PnOk b p):PnOk b (e0m p).2:=by
 unfold e0m
 split
 ·exact h
 ·exact b0G h (c0B (by simp) (by simp) c0Q)
theorem x0v {s:S12}{e:Ev}(h:e.ty≠1):(a0d s e).2.defs=s.defs:=by
 unfold a0d b0a a0g armL c0R a0c a0o
 rw [if_neg h]
 repeat' split
 all_goals rfl
theorem b1Z {s:S12}{e:Ev}(h5:e.ty≠5)(h6:e.ty≠6):(a0d s e).2.tms=s.tms:=by
 unfold a0d b0a a0c a0o
 rw [if_neg (show ¬ (e.ty=5∨e.ty=6) by omega)]
 repeat' split
 all_goals rfl
theorem f0P {s:S12}{e:Ev}(hi:s.id≠0)(h:(a0H s e).1=0):(a0H s e).2.defs=s.defs:=by
 obtain ⟨_,_,_,_,_,a6,_,a8⟩:=b0d h
 rw [a8]
 exact x0v (fun hh=>hi (a6.2 hh))
theorem t0u {b:S12}{p:Pn}{e:Ev}(hi:p.s.id≠0)(hp:0≤p.s.id):(a0P p e).2.s.defs=p.s.defs:=by
 rcases e0P p e with ⟨_,h2⟩|⟨_,_,h2,_,h3⟩|⟨_,_,h2,_,f,hf,h3,h4⟩
 ·rw [h2]
 ·rw [h3];exact f0P hi h2
 ·rw [h4]
  have h5:=f0P hi h2
  obtain ⟨_,a2,_,_,_,_,_,a8⟩:=b0d h2
  have h6:=f0P (s:=(a0H p.s (a0W p e)).2) (e:=f) (by rw [a8];dsimp only;omega) h3
  dsimp only
  rw [h6,h5]
theorem x0w {b:S12}{p:Pn}{e:Ev}(h:PnOk b p)(he:FitV e)(hi:p.s.id≠0):(a0P p e).2.s.nodes.length=p.s.nodes.length:=by
 have h1:=(b0G h he).ok.len
 rw [h1,t0u (b:=b) hi h.ok.id.1,h.ok.len]
def unf (l:List Tm):Nat:=l.countP fun x=>!x.fired
theorem g1x {l:List Tm}{j:Nat}(hj:j<l.length)(hf:(gt l j).fired=false):unf (l.set j { gt l j with fired:=true })<unf l:=by
 have hg:=a0v hj
 have hc:=List.countP_set (p:=fun x:Tm=>!x.fired) (l:=l) (i:=j) (a:={ gt l j with fired:=true }) hj
 have hp:(!l[j].fired)=true:=by rw [←hg,hf];try rfl
 have hpos:0<l.countP fun x=>!x.fired:=List.countP_pos_iff.2 ⟨l[j],List.getElem_mem hj,hp⟩
 unfold unf
 rw [hc]
 simp only [hp,Bool.not_true,if_true]
 simp
 omega
theorem u0q {s:S12}{e:Ev}(h6:e.ty=6)(h:(a0d s e).1=0):unf (a0d s e).2.tms<unf s.tms:=by
 unfold a0d a0g c0R at h ⊢
 rw [if_neg (by omega),if_neg (by omega),if_pos (.inr h6),if_neg (by omega)] at h ⊢
 by_cases a1:tmI s.tms e.name<0
 ·rw [if_pos a1] at h;cases h
 rw [if_neg a1] at h ⊢
 by_cases a2:(gt s.tms (tmI s.tms e.name).toNat).fired=true∨e.time<(gt s.tms (tmI s.tms e.name).toNat).due
 ·rw [if_pos a2] at h;cases h
 rw [if_neg a2]
 have:=w0N s.tms e.name
 exact g1x (by omega) (by cases hb:(gt s.tms (tmI s.tms e.name).toNat).fired with|false=>rfl|true=>exact absurd (.inl hb) a2)
theorem l0X {p:Pn}{nm:Bs}(h:(a0P p ⟨0,0,0,6,0,0,nm,[],[]⟩).1=0):unf (a0P p ⟨0,0,0,6,0,0,nm,[],[]⟩).2.s.tms<unf p.s.tms:=by
 rcases e0P p ⟨0,0,0,6,0,0,nm,[],[]⟩ with ⟨h1,h2⟩|⟨_,_,h2,_,h3⟩|⟨_,_,h2,_,f,hf,h3,h4⟩
 ·exact absurd h h1
 ·obtain ⟨_,_,_,_,_,_,a7,a8⟩:=b0d h2
  rw [h3,a8]
  exact u0q rfl a7
 ·obtain ⟨_,_,_,_,_,_,a7,a8⟩:=b0d h2
  obtain ⟨_,_,_,_,_,_,b7,b8⟩:=b0d h3
  have hk:=g0c (a0H p.s (a0W p ⟨0,0,0,6,0,0,nm,[],[]⟩)).2
  have ht:f.ty=a0Y (a0H p.s (a0W p ⟨0,0,0,6,0,0,nm,[],[]⟩)).2:=by rw [hf];try rfl
  rw [h4,b8]
  dsimp only
  rw [b1Z (by omega) (by omega),a8]
  exact u0q rfl a7
def d0K (now:Int):Nat→Nat→Pn→Int→Int × Pn × Bool
 | 0,_,p,n=>(n,p,false)
 | k+1,i,p,n =>
  if p.s.closed≠0 then (n,p,false)
  else if (gt p.s.nodes i).st≠1 then d0K now k (i+1) p n
  else if now<(gt p.s.nodes i).due then d0K now k (i+1) p n
  else if (a0P p ⟨0,0,0,4,i,(gt p.s.nodes i).tr,[],[],[]⟩).1≠0 then (n,(a0P p ⟨0,0,0,4,i,(gt p.s.nodes i).tr,[],[],[]⟩).2,true)
  else d0K now k (i+1) (a0P p ⟨0,0,0,4,i,(gt p.s.nodes i).tr,[],[],[]⟩).2 (n+1)
def h1f (a b:Bs):Bool:=Op.bytesLess (BB a).toList (BB b).toList
def befT (x y:Tm):Bool:=decide (x.due<y.due)||(decide (x.due=y.due)&&h1f x.name y.name)
def d0P (now:Int)(tms:List Tm):Nat→Int→List Tm→Int
 | _,k,[]=>k
 | i,k,x :: l =>
  if x.fired=true then d0P now tms (i+1) k l else if now<x.due then d0P now tms (i+1) k l
  else if k<0∨befT x (gt tms k.toNat)=true then d0P now tms (i+1) i l else d0P now tms (i+1) k l
def f0T (now:Int):Nat→Pn→Int→Int × Pn
 | 0,p,n=>(n,p)
 | f+1,p,n =>
  if p.s.closed≠0 then (n,p) else if d0P now p.s.tms 0 (-1) p.s.tms<0 then (n,p)
  else if (a0P p ⟨0,0,0,6,0,0,(gt p.s.tms (d0P now p.s.tms 0 (-1) p.s.tms).toNat).name,[],[]⟩).1≠0 then (n,(a0P p ⟨0,0,0,6,0,0,(gt p.s.tms (d0P now p.s.tms 0 (-1) p.s.tms).toNat).name,[],[]⟩).2)
  else f0T now f (a0P p ⟨0,0,0,6,0,0,(gt p.s.tms (d0P now p.s.tms 0 (-1) p.s.tms).toNat).name,[],[]⟩).2 (n+1)
def f0J (p:Pn):Int × Pn :=
 if (d0K (max p.now p.s.time) p.s.nodes.length 0 p 0).2.2=true then ((d0K (max p.now p.s.time) p.s.nodes.length 0 p 0).1,(d0K (max p.now p.s.time) p.s.nodes.length 0 p 0).2.1)
 else f0T (max p.now p.s.time) (unf (d0K (max p.now p.s.time) p.s.nodes.length 0 p 0).2.1.s.tms+1) (d0K (max p.now p.s.time) p.s.nodes.length 0 p 0).2.1 (d0K (max p.now p.s.time) p.s.nodes.length 0 p 0).1
theorem f0U (now:Int)(tms:List Tm):∀ (i:Nat) (k:Int) (l:List Tm),k<i+l.length→d0P now tms i k l<i+l.length
 | _,_,[],h=>h
 | i,k,x :: l,h=>by
  rw [d0P]
  simp only [List.length_cons] at h ⊢
  split
  ·have:=f0U now tms (i+1) k l (by omega);omega
  ·split
   ·have:=f0U now tms (i+1) k l (by omega);omega
   ·split
    ·have:=f0U now tms (i+1) i l (by omega);omega
    ·have:=f0U now tms (i+1) k l (by omega);omega
theorem g0H {b:S12}{now:Int}:∀ {k i:Nat} {p:Pn} {n:Int},PnOk b p→PnOk b (d0K now k i p n).2.1
 | 0,_,_,_,h=>h
 | k+1,i,p,n,h=>by
  rw [d0K]
  have hw:=b0G (e:=⟨0,0,0,4,i,(gt p.s.nodes i).tr,[],[],[]⟩) h (c0B (by simp) (by simp) c0Q)
  split
  ·exact h
  ·split
   ·exact g0H h
   ·split
    ·exact g0H h
    ·split
     ·exact hw
     ·exact g0H hw
theorem x0X {b:S12}{now:Int}:∀ {f:Nat} {p:Pn} {n:Int},PnOk b p→PnOk b (f0T now f p n).2
 | 0,_,_,h=>h
 | f+1,p,n,h=>by
  rw [f0T]
  split
  ·exact h
  ·split
   ·exact h
   ·have hk:=f0U now p.s.tms 0 (-1) p.s.tms (by omega)
    have hn:=h.ok.tname _ (a0M (l:=p.s.tms) (k:=(d0P now p.s.tms 0 (-1) p.s.tms).toNat) (by omega))
    have hw:=b0G (e:=⟨0,0,0,6,0,0,(gt p.s.tms (d0P now p.s.tms 0 (-1) p.s.tms).toNat).name,[],[]⟩) h (c0B (by omega) (by simp) c0Q)
    split
    ·exact hw
    ·exact x0X hw
theorem d1f {b:S12}{p:Pn}(h:PnOk b p):PnOk b (f0J p).2:=by
 unfold f0J
 split
 ·exact g0H h
 ·exact x0X (g0H h)
end Go.Proofs.YthjgmldnegaaiaaGreatDoor.Mir
