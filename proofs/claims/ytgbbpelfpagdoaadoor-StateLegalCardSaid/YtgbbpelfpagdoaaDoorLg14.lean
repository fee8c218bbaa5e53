/- Texts laid into one file: PnA, CLaw12L, NxA, PnB, PnC, PnD, PnE, PnF, PlB. -/
import Derived.Test.YtgbbpelfpagdoaaDoorLg13
set_option linter.unusedVariables false
set_option linter.unusedSimpArgs false
namespace Go.Proofs.YtgbbpelfpagdoaaDoor.Mir
open Go Go.RowKit
set_option maxHeartbeats 4000000
theorem vws_evD {H : List Row} {e : Ev} : Vw H (evD e) (evD e):=.ags (.cons .f (.cons .f (.cons .f (.cons .f (.cons .f (.cons .f (.cons .f (.cons .f (.cons .f .nil)))))))))
theorem inf_Ev : inf Tryd.prog 38 = some (9,112,[.int .i64 0,.int .i64 0,.int .i64 0,.int .i64 0,.int .i64 0,.int .i64 0,.string ⟨#[]⟩,.slice none 0 0,.slice none 0 0]):=by kernel_rfl
theorem ev_app {l : List Ev} {e : Ev} : l.flatMap Ev.cs ++ [F.v (.int .i64 e.id),.v (.int .i64 e.ver),.v (.int .i64 e.time),.v (.int .i64 e.ty),.v (.int .i64 e.node),.v (.int .i64 e.n),.v (.string (BB e.name)),fY e.data,fG e.defs] = (l ++ [e]).flatMap Ev.cs:=by simp [Ev.cs]
theorem ev_app2 {l : List Ev} {e f : Ev} : l.flatMap Ev.cs ++ [F.v (.int .i64 e.id),.v (.int .i64 e.ver),.v (.int .i64 e.time),.v (.int .i64 e.ty),.v (.int .i64 e.node),.v (.int .i64 e.n),.v (.string (BB e.name)),fY e.data,fG e.defs,F.v (.int .i64 f.id),.v (.int .i64 f.ver),.v (.int .i64 f.time),.v (.int .i64 f.ty),.v (.int .i64 f.node),.v (.int .i64 f.n),.v (.string (BB f.name)),fY f.data,fG f.defs] = (l ++ [e,f]).flatMap Ev.cs:=by simp [Ev.cs]
structure Pn where
  s : S12
  ver : Int
  now : Int
  out : List Ev
def pnD (p : Pn) : List D:=[D.int p.s.id,D.int p.s.ver,D.int p.s.time,D.int p.s.closed,D.bool p.s.cancel,.f (fG p.s.defs),.f (fNn p.s.nodes),.f (fTm p.s.tms),.f (fSg p.s.sgs),D.int p.ver,D.int p.now,.f (fEv p.out)]
def pnB (p : Pn) : Row:=.box 67 (pnD p)
def nextP (p : Pn) (e : Ev) : Ev:={ e with id:=p.s.id + 1,ver:=p.ver,time:=max p.now p.s.time }
theorem c_pen_next (p : Pn) (e : Ev) (hi : 0 ≤ p.s.id ∧ p.s.id < 1000000000) : Con Tryd.prog 80 [.pt 0 0,evD e] [pnB p] fun r H'=>r = evD (nextP p e) ∧ H' = [pnB p]:=by
  obtain ⟨⟨id,ver,time,closed,cancel,defs,nodes,tms,sgs⟩,v,now,out⟩:=p
  obtain ⟨hi1,hi2⟩:=hi
  dsimp only at hi1 hi2
  refine Con.walk good fn_pen_next (by simp) ?_
  unfold s_pen_next
  simp only [argsE,pnB,pnD,evD]
  repeat' (first|(with_reducible first|refine Wx.h ?_|refine We.h fun K hK=>?_|refine Wd.h fun K M hK hM=>?_|(refine hK _ _ _ _ ?_;clear hK K;try clear hM M)|(refine hM ?_;clear hM M;try clear hK K)|refine Wb.h fun K hK=>?_|(refine hK _ ?_;clear hK K)|(refine wT ?_ ?_;· assumption)|(refine wF ?_ ?_;· assumption))|((with_reducible refine kQ ?_ ?_);kernel_rfl)|((with_reducible refine k1 ?_ ?_);rfl)|((with_reducible refine k0 ?_ ?_);rfl)|((with_reducible apply kB)<;>first|rfl|intro h)|((with_reducible refine kM ?_ ?_);rfl)|(with_reducible refine Wq.h ?_ ?_)<;>intro h<;>try (exfalso;omega)|(with_reducible refine Wu.h ?_ ?_)<;>intro h<;>try simp only [h]|((fail_if_success with_reducible refine Wz.h ?_);first|simp (disch:=omega) only [↓LD,LA,loadA_rf,seval]|((with_reducible refine And.intro ?_ ?_);omega)|simp only [D.int,D.bool]))
  exact RetS.still (ds:=[evD (nextP ⟨⟨id,ver,time,closed,cancel,defs,nodes,tms,sgs⟩,v,now,out⟩ e)]) (by kernel_rfl) (by kernel_rfl) vws_evD ⟨rfl,rfl⟩
def ev0 (ty : Int) : Ev:=⟨0,0,0,ty,0,0,[],[],[]⟩
theorem endingL_in (s : S12) : endingL s = 0 ∨ endingL s = 9 ∨ endingL s = 10 ∨ endingL s = 11:=by
  unfold endingL;split
  · omega
  · split
    · omega
    · split
      · omega
      · split<;>omega
def endP (p : Pn) (s : S12) (e1 : Ev) : Int × Pn :=
  if endingL s ≠ 0 then
    (if 200 < s.id + 1 then (2,p)
     else if (applyR s (nextP { p with s:=s } (ev0 (endingL s)))).1 ≠ 0 then ((applyR s (nextP { p with s:=s } (ev0 (endingL s)))).1,p)
     else (0,{ p with s:=(applyR s (nextP { p with s:=s } (ev0 (endingL s)))).2,out:=p.out ++ [e1,nextP { p with s:=s } (ev0 (endingL s))] }))
  else (0,{ p with s:=s,out:=p.out ++ [e1] })
def writeP (p : Pn) (e : Ev) : Int × Pn :=
  if 200 < p.s.id + 1 then
    (if (applyR { p.s with id:=1 } { nextP p e with id:=2 }).1 ≠ 0 then ((applyR { p.s with id:=1 } { nextP p e with id:=2 }).1,p) else (2,p))
  else if (applyR p.s (nextP p e)).1 ≠ 0 then ((applyR p.s (nextP p e)).1,p)
  else endP p (applyR p.s (nextP p e)).2 (nextP p e)
set_option maxRecDepth 100000 in
theorem c_pen_write (p : Pn) (e : Ev) (ho : Ok12 p.s) (he : FitV e) (hl : p.out.length ≤ 1000000) : Con Tryd.prog 62 [.pt 0 0,evD e] [pnB p] fun r H'=>r = D.int (writeP p e).1 ∧ H' = [pnB (writeP p e).2]:=by
  obtain ⟨s,ver,now,out⟩:=p
  suffices hh : ∀ Q : D → List Row → Prop,(∀ r H',r = D.int (writeP ⟨s,ver,now,out⟩ e).1 → H' = [pnB (writeP ⟨s,ver,now,out⟩ e).2] → Q r H') → Con Tryd.prog 62 [.pt 0 0,evD e] [pnB ⟨s,ver,now,out⟩] Q from hh _ fun _ _ h1 h2=>⟨h1,h2⟩
  intro Q hQ
  dsimp only at ho hl
  have hid:=ho.id
  haveI : Kn (Wk12 s):=⟨ho.wk⟩
  have hn : FitV (nextP ⟨s,ver,now,out⟩ e):=he
  haveI : Kn (FitV (nextP ⟨s,ver,now,out⟩ e)):=⟨hn⟩
  refine Con.walk good fn_pen_write (by simp) ?_
  unfold s_pen_write
  simp only [argsE,pnB,pnD,evD]
  repeat' (first|(with_reducible first|refine Wx.h ?_|refine We.h fun K hK=>?_|refine Wd.h fun K M hK hM=>?_|(refine hK _ _ _ _ ?_;clear hK K;try clear hM M)|(refine hM ?_;clear hM M;try clear hK K)|refine Wb.h fun K hK=>?_|(refine hK _ ?_;clear hK K)|(refine wT ?_ ?_;· assumption)|(refine wF ?_ ?_;· assumption))|((with_reducible refine kQ ?_ ?_);kernel_rfl)|((with_reducible refine k1 ?_ ?_);rfl)|((with_reducible refine k0 ?_ ?_);rfl)|((with_reducible apply kB)<;>first|rfl|intro h)|((with_reducible refine kM ?_ ?_);rfl)|(with_reducible refine Wq.h ?_ ?_)<;>intro h<;>try (exfalso;omega)|(with_reducible refine Wu.h ?_ ?_)<;>intro h<;>try simp only [h]|((fail_if_success with_reducible refine Wz.h ?_);first|simp (disch:=omega) only [↓LD,LA,loadA_rf,seval,LEv]|((with_reducible refine And.intro ?_ ?_);omega)|simp only [D.int,D.bool]))
  all_goals refine callW_own (c_pen_next ⟨s,ver,now,out⟩ e ⟨by dsimp only;omega,by dsimp only;omega⟩) rfl rfl (fun _=>rfl) (fun _=>rfl) (fun _=>rfl) (fun _=>rfl) ?_
  repeat' (first|(with_reducible first|refine Wx.h ?_|refine We.h fun K hK=>?_|refine Wd.h fun K M hK hM=>?_|(refine hK _ _ _ _ ?_;clear hK K;try clear hM M)|(refine hM ?_;clear hM M;try clear hK K)|refine Wb.h fun K hK=>?_|(refine hK _ ?_;clear hK K)|(refine wT ?_ ?_;· assumption)|(refine wF ?_ ?_;· assumption))|((with_reducible refine kQ ?_ ?_);kernel_rfl)|((with_reducible refine k1 ?_ ?_);rfl)|((with_reducible refine k0 ?_ ?_);rfl)|((with_reducible apply kB)<;>first|rfl|intro h)|((with_reducible refine kM ?_ ?_);rfl)|(with_reducible refine Wq.h ?_ ?_)<;>intro h<;>try (exfalso;omega)|(with_reducible refine Wu.h ?_ ?_)<;>intro h<;>try simp only [h]|((fail_if_success with_reducible refine Wz.h ?_);first|simp (disch:=omega) only [↓LD,LA,loadA_rf,seval,LEv,pnB,pnD,evD,List.set_cons_zero]|((with_reducible refine And.intro ?_ ?_);omega)|simp only [D.int,D.bool]))
  · have h2 : 200 < s.id + 1:=by assumption
    refine callDr_pure (Wk12.app (ho.wk1 (by omega)) (e:={ nextP ⟨s,ver,now,out⟩ e with id:=2 }) hn) rfl rfl rfl ?_
    repeat' (first|(with_reducible first|refine Wx.h ?_|refine We.h fun K hK=>?_|refine Wd.h fun K M hK hM=>?_|(refine hK _ _ _ _ ?_;clear hK K;try clear hM M)|(refine hM ?_;clear hM M;try clear hK K)|refine Wb.h fun K hK=>?_|(refine hK _ ?_;clear hK K)|(refine wT ?_ ?_;· assumption)|(refine wF ?_ ?_;· assumption))|((with_reducible refine kQ ?_ ?_);kernel_rfl)|((with_reducible refine k1 ?_ ?_);rfl)|((with_reducible refine k0 ?_ ?_);rfl)|((with_reducible apply kB)<;>first|rfl|intro h)|((with_reducible refine kM ?_ ?_);rfl)|(with_reducible refine Wq.h ?_ ?_)<;>intro h<;>try (exfalso;omega)|(with_reducible refine Wu.h ?_ ?_)<;>intro h<;>try simp only [h]|((fail_if_success with_reducible refine Wz.h ?_);first|simp (disch:=omega) only [↓LD,LA,loadA_rf,seval,stD]|((with_reducible refine And.intro ?_ ?_);omega)|simp only [D.int,D.bool]))
    · have hb : writeP ⟨s,ver,now,out⟩ e = (2,⟨s,ver,now,out⟩):=by unfold writeP;rw [if_pos h2,if_neg (fun hh=>hh (by assumption))]
      rw [hb] at hQ
      exact end1 rfl rfl (by kernel_rfl) .f (hQ _ _ rfl rfl)
    · have hb : writeP ⟨s,ver,now,out⟩ e = ((applyR { s with id:=1 } { nextP ⟨s,ver,now,out⟩ e with id:=2 }).1,⟨s,ver,now,out⟩):=by unfold writeP;rw [if_pos h2,if_pos (by assumption)]
      rw [hb] at hQ
      exact end1 rfl rfl (by kernel_rfl) .f (hQ _ _ rfl rfl)
  rotate_left
  · have h2 : ¬ 200 < s.id + 1:=by assumption
    have hb : writeP ⟨s,ver,now,out⟩ e = ((applyR s (nextP ⟨s,ver,now,out⟩ e)).1,⟨s,ver,now,out⟩):=by unfold writeP;rw [if_neg h2,if_pos (by assumption)]
    rw [hb] at hQ
    exact end1 rfl rfl (by kernel_rfl) .f (hQ _ _ rfl rfl)
  have h2 : ¬ 200 < s.id + 1:=by assumption
  have h3 : (applyR s (nextP ⟨s,ver,now,out⟩ e)).1 = 0:=by assumption
  have hb : writeP ⟨s,ver,now,out⟩ e = endP ⟨s,ver,now,out⟩ (applyR s (nextP ⟨s,ver,now,out⟩ e)).2 (nextP ⟨s,ver,now,out⟩ e):=by unfold writeP;rw [if_neg h2,if_neg (fun hh=>hh h3)]
  rw [hb] at hQ
  clear hb
  have ho2:=ok12_apply ho hn.2.2.2 h3
  have hid2:=ho2.id
  have hnl:=ho2.wk.fit.fit.nodes
  haveI : Kn (Wk12 (applyR s (nextP ⟨s,ver,now,out⟩ e)).2):=⟨ho2.wk⟩
  generalize (applyR s (nextP ⟨s,ver,now,out⟩ e)).1 = v1 at *
  generalize (applyR s (nextP ⟨s,ver,now,out⟩ e)).2 = s1 at *
  generalize nextP ⟨s,ver,now,out⟩ e = e1 at *
  refine callW_pure (c_ref_Ending s1 hnl) rfl rfl rfl ?_
  have hek:=endingL_in s1
  have hn2 : FitV (nextP ⟨s1,ver,now,out⟩ (ev0 (endingL s1))):=⟨by simp [nextP,ev0],by simp [nextP,ev0],⟨by simp [nextP,ev0],by simp [nextP,ev0]⟩⟩
  haveI : Kn (FitV (nextP ⟨s1,ver,now,out⟩ (ev0 (endingL s1)))):=⟨hn2⟩
  repeat' (first|(with_reducible first|refine Wa.h ?_|refine Ws.h ?_|refine We.h fun K hK=>?_|refine Wd.h fun K M hK hM=>?_|(refine hK _ _ _ _ ?_;clear hK K;try clear hM M)|(refine hM ?_;clear hM M;try clear hK K)|refine Wb.h fun K hK=>?_|(refine hK _ ?_;clear hK K)|(refine wT ?_ ?_;· assumption)|(refine wF ?_ ?_;· assumption))|((with_reducible refine kQ ?_ ?_);kernel_rfl)|((with_reducible refine k1 ?_ ?_);rfl)|((with_reducible refine k0 ?_ ?_);rfl)|((with_reducible apply kB)<;>first|rfl|intro h)|((with_reducible refine kM ?_ ?_);rfl)|(with_reducible refine Wq.h ?_ ?_)<;>intro h<;>try (exfalso;omega)|(with_reducible refine Wu.h ?_ ?_)<;>intro h<;>try simp only [h]|((fail_if_success with_reducible refine Wz.h ?_);first|simp (disch:=omega) only [↓LD,LA,loadA_rf,seval,LEv,len_fEv]|((with_reducible refine And.intro ?_ ?_);omega)|simp only [D.int,D.bool]))
  · have h5 : endingL s1 = 0:=by assumption
    have hb : endP ⟨s,ver,now,out⟩ s1 e1 = (0,⟨s1,ver,now,out ++ [e1]⟩):=by unfold endP;rw [if_neg (fun hh=>hh h5)]
    obtain rfl : out = []:=List.eq_nil_of_length_eq_zero (by assumption)
    rw [hb] at hQ
    refine HS.view (View.fixb (xs:=[D.int s1.id,D.int s1.ver,D.int s1.time,D.int s1.closed,D.bool s1.cancel,.f (fG s1.defs),.f (fNn s1.nodes),.f (fTm s1.tms),.f (fSg s1.sgs),D.int ver,D.int now,.sl 5 0 1]) (ys:=([] ++ [e1]).flatMap Ev.cs) 0 11 5 rfl rfl rfl inf_Ev (by omega) len_fEv (by omega)) ?_
    repeat' (first|(with_reducible first|refine Wx.h ?_|refine Wb.h fun K hK=>?_|(refine hK _ ?_;clear hK K)|(refine wT ?_ ?_;· assumption)|(refine wF ?_ ?_;· assumption))|((with_reducible refine kQ ?_ ?_);kernel_rfl)|((with_reducible refine k1 ?_ ?_);rfl)|((with_reducible refine k0 ?_ ?_);rfl)|((with_reducible apply kB)<;>first|rfl|intro h)|((with_reducible refine kM ?_ ?_);rfl)|(with_reducible refine Wq.h ?_ ?_)<;>intro h<;>try (exfalso;omega)|(with_reducible refine Wu.h ?_ ?_)<;>intro h<;>try simp only [h]|((fail_if_success with_reducible refine Wz.h ?_);first|simp (disch:=omega) only [↓LD,LA,loadA_rf,seval]|((with_reducible refine And.intro ?_ ?_);omega)|simp only [D.int,D.bool]))
    exact end1 rfl rfl (by kernel_rfl) .f (hQ _ _ rfl rfl)
  · have h5 : endingL s1 = 0:=by assumption
    have hb : endP ⟨s,ver,now,out⟩ s1 e1 = (0,⟨s1,ver,now,out ++ [e1]⟩):=by unfold endP;rw [if_neg (fun hh=>hh h5)]
    rw [hb] at hQ
    rw [ev_app,show out.length + 1 = (out ++ [e1]).length by simp]
    refine HS.view (View.fixb 0 11 6 rfl rfl rfl inf_Ev (by simp) len_fEv (by omega)) ?_
    repeat' (first|(with_reducible first|refine Wx.h ?_|refine Wb.h fun K hK=>?_|(refine hK _ ?_;clear hK K)|(refine wT ?_ ?_;· assumption)|(refine wF ?_ ?_;· assumption))|((with_reducible refine kQ ?_ ?_);kernel_rfl)|((with_reducible refine k1 ?_ ?_);rfl)|((with_reducible refine k0 ?_ ?_);rfl)|((with_reducible apply kB)<;>first|rfl|intro h)|((with_reducible refine kM ?_ ?_);rfl)|(with_reducible refine Wq.h ?_ ?_)<;>intro h<;>try (exfalso;omega)|(with_reducible refine Wu.h ?_ ?_)<;>intro h<;>try simp only [h]|((fail_if_success with_reducible refine Wz.h ?_);first|simp (disch:=omega) only [↓LD,LA,loadA_rf,seval]|((with_reducible refine And.intro ?_ ?_);omega)|simp only [D.int,D.bool]))
    exact end1 rfl rfl (by kernel_rfl) .f (hQ _ _ rfl rfl)
  refine callW_less (args0:=[.pt 0 0,evD (ev0 (endingL s1))]) ?_ (by repeat' (first|exact WDs.nil|refine WDs.cons ?_ ?_|exact WD.refl|exact WD.f .ns|exact WD.f .es|refine WD.ags ?_|refine WD.f (WF.ls ?_)|exact WFs.nil|refine WFs.cons ?_ ?_|exact WF.refl|exact WF.ns|exact WF.es))
  refine callW_own (c_pen_next ⟨s1,ver,now,out⟩ (ev0 (endingL s1)) ⟨by dsimp only;omega,by dsimp only;omega⟩) rfl rfl (fun _=>rfl) (fun _=>rfl) (fun _=>rfl) (fun _=>rfl) ?_
  have h5 : ¬ endingL s1 = 0:=by assumption
  have hb : endP ⟨s,ver,now,out⟩ s1 e1 = if 200 < s1.id + 1 then (2,⟨s,ver,now,out⟩) else if (applyR s1 (nextP ⟨s1,ver,now,out⟩ (ev0 (endingL s1)))).1 ≠ 0 then ((applyR s1 (nextP ⟨s1,ver,now,out⟩ (ev0 (endingL s1)))).1,⟨s,ver,now,out⟩)
     else (0,⟨(applyR s1 (nextP ⟨s1,ver,now,out⟩ (ev0 (endingL s1)))).2,ver,now,out ++ [e1,nextP ⟨s1,ver,now,out⟩ (ev0 (endingL s1))]⟩):=by unfold endP;rw [if_pos h5]
  rw [hb] at hQ
  clear hb
  have hni : (nextP ⟨s1,ver,now,out⟩ (ev0 (endingL s1))).id = s1.id + 1:=rfl
  generalize nextP ⟨s1,ver,now,out⟩ (ev0 (endingL s1)) = e2 at *
  repeat' (first|(with_reducible first|refine Wa.h ?_|refine Ws.h ?_|refine We.h fun K hK=>?_|refine Wd.h fun K M hK hM=>?_|(refine hK _ _ _ _ ?_;clear hK K;try clear hM M)|(refine hM ?_;clear hM M;try clear hK K)|refine Wb.h fun K hK=>?_|(refine hK _ ?_;clear hK K)|(refine wT ?_ ?_;· assumption)|(refine wF ?_ ?_;· assumption))|((with_reducible refine kQ ?_ ?_);kernel_rfl)|((with_reducible refine k1 ?_ ?_);rfl)|((with_reducible refine k0 ?_ ?_);rfl)|((with_reducible apply kB)<;>first|rfl|intro h)|((with_reducible refine kM ?_ ?_);rfl)|(with_reducible refine Wq.h ?_ ?_)<;>intro h<;>try (exfalso;omega)|(with_reducible refine Wu.h ?_ ?_)<;>intro h<;>try simp only [h]|((fail_if_success with_reducible refine Wz.h ?_);first|simp (disch:=omega) only [↓LD,LA,loadA_rf,seval,LEv,len_fEv,pnB,pnD,evD]|((with_reducible refine And.intro ?_ ?_);omega)|simp only [D.int,D.bool]))
  · rw [if_pos (show 200 < s1.id + 1 by omega)] at hQ
    repeat' (first|(with_reducible first|refine Wx.h ?_|refine Wb.h fun K hK=>?_|(refine hK _ ?_;clear hK K)|(refine wT ?_ ?_;· assumption)|(refine wF ?_ ?_;· assumption))|((with_reducible refine kQ ?_ ?_);kernel_rfl)|((with_reducible refine k1 ?_ ?_);rfl)|((with_reducible refine k0 ?_ ?_);rfl)|((with_reducible apply kB)<;>first|rfl|intro h)|((with_reducible refine kM ?_ ?_);rfl)|(with_reducible refine Wq.h ?_ ?_)<;>intro h<;>try (exfalso;omega)|(with_reducible refine Wu.h ?_ ?_)<;>intro h<;>try simp only [h]|((fail_if_success with_reducible refine Wz.h ?_);first|simp (disch:=omega) only [↓LD,LA,loadA_rf,seval]|((with_reducible refine And.intro ?_ ?_);omega)|simp only [D.int,D.bool]))
    exact end1 rfl rfl (by kernel_rfl) .f (hQ _ _ rfl rfl)
  · rw [if_neg (show ¬ 200 < s1.id + 1 by omega),if_neg (fun hh=>hh (show (applyR s1 e2).1 = 0 by assumption))] at hQ
    obtain rfl : out = []:=List.eq_nil_of_length_eq_zero (by assumption)
    refine HS.view (View.fixb (xs:=[D.int (applyR s1 e2).2.id,D.int (applyR s1 e2).2.ver,D.int (applyR s1 e2).2.time,D.int (applyR s1 e2).2.closed,D.bool (applyR s1 e2).2.cancel,.f (fG (applyR s1 e2).2.defs),.f (fNn (applyR s1 e2).2.nodes),.f (fTm (applyR s1 e2).2.tms),.f (fSg (applyR s1 e2).2.sgs),D.int ver,D.int now,.sl 8 0 2]) (ys:=([] ++ [e1,e2]).flatMap Ev.cs) 0 11 8 rfl rfl rfl inf_Ev (by omega) len_fEv (by omega)) ?_
    repeat' (first|(with_reducible first|refine Wx.h ?_|refine Wb.h fun K hK=>?_|(refine hK _ ?_;clear hK K)|(refine wT ?_ ?_;· assumption)|(refine wF ?_ ?_;· assumption))|((with_reducible refine kQ ?_ ?_);kernel_rfl)|((with_reducible refine k1 ?_ ?_);rfl)|((with_reducible refine k0 ?_ ?_);rfl)|((with_reducible apply kB)<;>first|rfl|intro h)|((with_reducible refine kM ?_ ?_);rfl)|(with_reducible refine Wq.h ?_ ?_)<;>intro h<;>try (exfalso;omega)|(with_reducible refine Wu.h ?_ ?_)<;>intro h<;>try simp only [h]|((fail_if_success with_reducible refine Wz.h ?_);first|simp (disch:=omega) only [↓LD,LA,loadA_rf,seval]|((with_reducible refine And.intro ?_ ?_);omega)|simp only [D.int,D.bool]))
    exact end1 rfl rfl (by kernel_rfl) .f (hQ _ _ rfl rfl)
  · rw [if_neg (show ¬ 200 < s1.id + 1 by omega),if_neg (fun hh=>hh (show (applyR s1 e2).1 = 0 by assumption))] at hQ
    rw [ev_app2,show out.length + 2 = (out ++ [e1,e2]).length by simp]
    refine HS.view (View.fixb 0 11 9 rfl rfl rfl inf_Ev (by simp) len_fEv (by omega)) ?_
    repeat' (first|(with_reducible first|refine Wx.h ?_|refine Wb.h fun K hK=>?_|(refine hK _ ?_;clear hK K)|(refine wT ?_ ?_;· assumption)|(refine wF ?_ ?_;· assumption))|((with_reducible refine kQ ?_ ?_);kernel_rfl)|((with_reducible refine k1 ?_ ?_);rfl)|((with_reducible refine k0 ?_ ?_);rfl)|((with_reducible apply kB)<;>first|rfl|intro h)|((with_reducible refine kM ?_ ?_);rfl)|(with_reducible refine Wq.h ?_ ?_)<;>intro h<;>try (exfalso;omega)|(with_reducible refine Wu.h ?_ ?_)<;>intro h<;>try simp only [h]|((fail_if_success with_reducible refine Wz.h ?_);first|simp (disch:=omega) only [↓LD,LA,loadA_rf,seval]|((with_reducible refine And.intro ?_ ?_);omega)|simp only [D.int,D.bool]))
    exact end1 rfl rfl (by kernel_rfl) .f (hQ _ _ rfl rfl)
  · rw [if_neg (show ¬ 200 < s1.id + 1 by omega),if_pos (show (applyR s1 e2).1 ≠ 0 by assumption)] at hQ
    repeat' (first|(with_reducible first|refine Wx.h ?_|refine Wb.h fun K hK=>?_|(refine hK _ ?_;clear hK K)|(refine wT ?_ ?_;· assumption)|(refine wF ?_ ?_;· assumption))|((with_reducible refine kQ ?_ ?_);kernel_rfl)|((with_reducible refine k1 ?_ ?_);rfl)|((with_reducible refine k0 ?_ ?_);rfl)|((with_reducible apply kB)<;>first|rfl|intro h)|((with_reducible refine kM ?_ ?_);rfl)|(with_reducible refine Wq.h ?_ ?_)<;>intro h<;>try (exfalso;omega)|(with_reducible refine Wu.h ?_ ?_)<;>intro h<;>try simp only [h]|((fail_if_success with_reducible refine Wz.h ?_);first|simp (disch:=omega) only [↓LD,LA,loadA_rf,seval]|((with_reducible refine And.intro ?_ ?_);omega)|simp only [D.int,D.bool]))
    exact end1 rfl rfl (by kernel_rfl) .f (hQ _ _ rfl rfl)
end Go.Proofs.YtgbbpelfpagdoaaDoor.Mir
namespace Go.Proofs.YtgbbpelfpagdoaaDoor.Mir
open Go Go.RowKit
def s_law_StateLegal : SCode :=
  (jq ([.a 6 (.mv kF)]) (jq ((ap [jm 19 0,jm 20 1,.a 21 (.call (kC 5) [(.t 19),(.t 20)])] (ap [.a 22 (.call (kC 6) [(.t 21)])] [jm 18 22,jE 23 0 18,
 jE 24 1 18,.a 7 (.alloc 31 [jI,jI,jI,jI,jF,jN,jN,jN,jN]),.n (.store 9 (.t 7) (.t 23)),jm 8 24]))) (.seq (jq ((ap [.a 25 (.call (kC 7) [])]
 (ap [.a 26 (.unot (.t 25)),jm 27 26,gM 28 8 27 false] (ap [jG 29 (.bin .neq (.t 28) (kI 0)) 27 false] [.a 30 (.pick (.t 27) kT (.t 29))])))) (jc 30
 (jq ([.a 6 (.mv kF)]) .ret) .skip)) (.seq (jq ([jk 9 0]) (.block 0 (.loop (.seq (jq ((ap [jm 31 9,jm 32 2,je 33 32,jB 34 .lss 31 33] (ap [jm 35 34,
 gM 36 9 35 true] (ap [jG 37 (.bin .lss (.t 36) (kI 25)) 35 true] [.a 38 (.pick (.t 35) (.t 37) kF)])))) (jc 38 .skip (.exit 0))) (.seq (.block 1 (.seq
 (.drw [jL 41 9 7,jm 42 2,jm 43 9,jx 44 6 42 43,jL 45 6 44,.a 46 (.call (kC 9) [(.t 41),(.t 45)]),.a 10 (.alloc 38 [jI,jI,jI,jI,jI,jI,(.f
 (.v (.string ⟨#[]⟩))),jN,jN]),.n (.store 9 (.t 10) (.t 46))] [0,0,0,6,14,31,0,127]) (jq ((ap [jL 48 9 7,jL 49 9 10,.a 50 (.call (kC 10)
 [(.t 48),(.t 49)])] [jm 47 50,jE 51 0 47,jE 52 1 47,.a 11 (.alloc 31 [jI,jI,jI,jI,jF,jN,jN,jN,jN]),.n (.store 9 (.t 11) (.t 51)),jm 12
 52])) (.seq (jq ([jm 53 12,jb 54 .eql 53 0]) (jc 54 (.seq (jq ((ap [jo 55 3 7,jl 56 55,jb 57 .neq 56 0] (ap [jm 58 57,gO 59 0 11 58 false] (ap [gL
 60 59 58 false,gO 61 0 10 58 false,gL 62 61 58 false,jG 63 (.bin .neq (.t 60) (.t 62)) 58 false] (ap [.a 64 (.pick (.t 58) kT (.t 63)),jm 65 64,gO
 66 1 11 65 false] (ap [gL 67 66 65 false,gO 68 1 10 65 false,gL 69 68 65 false,jG 70 (.bin .neq (.t 67) (.t 69)) 65 false] (ap [.a 71 (.pick (.t 65)
 kT (.t 70)),jm 72 71,gO 73 2 11 72 false] (ap [gL 74 73 72 false,gO 75 2 10 72 false,gL 76 75 72 false,jG 77 (.bin .neq (.t 74) (.t 76)) 72 false]
 [.a 78 (.pick (.t 72) kT (.t 77))])))))))) (jc 78 (jq ([.a 6 (.mv kF)]) .ret) .skip)) (.ops [jL 79 9 11,.n (.store 9 (.t 7) (.t 79))])) .skip)) (.seq
 (jq ([jo 80 6 7,jl 81 80,je 82 81,jo 83 5 7,jl 84 83,je 85 84,jB 86 .neq 82 85]) (jc 86 (jq ([.a 6 (.mv kF)]) .ret) .skip)) (.seq (jq ([jk 13 0])
 (.block 2 (.loop (.seq (jq ([jm 87 13,jo 88 6 7,jl 89 88,je 90 89,jB 91 .lss 87 90]) (jc 91 .skip (.exit 2))) (.seq (.block 3 (jq ([jo 94 6 7,jl
 95 94,jm 96 13,jx 97 4 95 96,jL 98 4 97,.a 14 (.alloc 48 [jI,jI,jI,jN]),.n (.store 4 (.t 14) (.t 98))]) (.seq (.seq (.drw [jo 99 1 14,jl 100
 99,jo 101 5 7,jl 102 101,jm 103 13,jx 104 3 102 103,jo 105 1 104,jl 106 105,jB 107 .gtr 100 106,jm 108 107,gO 109 0 14 108 false,gL 110 109
 108 false,jG 111 (.bin .eql (.t 110) (kI 3)) 108 false,gM 112 111 108 false,gO 113 1 14 112 true,gL 114 113 112 true,gO 115 5 7 112 true,gL 116
 115 112 true,gM 117 13 112 true,jG 118 (.idx 3 (.t 116) (.t 117)) 112 true,gO 119 1 118 112 true,gL 120 119 112 true,jG 121 (.bin .neq (.t 114)
 (.t 120)) 112 true,jG 122 (.pick (.t 112) (.t 121) kF) 108 false,.a 123 (.pick (.t 108) kT (.t 122))] [0,1,0,4,0,28,60,124,255,511,1023,
 2047,4095,8191,16383,32767,16383,81919,16383,475135,999423,2047999,4194303,8388607,16777215]) (jc 123 (jq ([.a 6 (.mv kF)]) .ret) .skip))
 (jq ([jk 15 0]) (.block 4 (.loop (.seq (jq ((ap [jm 124 15,jo 125 5 7,jl 126 125,jm 127 13,jx 128 3 126 127,jo 129 0 128,jl 130 129,je 131 130,
 jB 132 .lss 124 131] (ap [jm 133 132,gO 134 1 14 133 true] (ap [gL 135 134 133 true,jG 136 (.bin .gtr (.t 135) (kI 0)) 133 true] [.a 137 (.pick (.t
 133) (.t 136) kF)])))) (jc 137 .skip (.exit 4))) (.seq (.block 5 (.seq (.drw [jo 140 6 7,jl 141 140,jo 142 5 7,jl 143 142,jm 144 13,jx 145 3 143
 144,jo 146 0 145,jl 147 146,jm 148 15,jx 149 1 147 148,jl 150 149,jx 151 4 141 150,jo 152 0 151,jl 153 152,jb 154 .neq 153 2] [0,1,0,4,0,
 28,60,124,0,508,1020,2047,4095,8191,16383]) (jc 154 (jq ([.a 6 (.mv kF)]) .ret) .skip))) (.ops [jm 138 15,jb 139 .add 138 1,jm 15
 139]))))))))) (.ops [jm 92 13,jb 93 .add 92 1,jm 13 93])))))) (jq ([jk 16 0]) (.block 6 (.loop (.seq (jq ([jm 155 16,jo 156 8 7,jl 157 156,je 158
 157,jB 159 .lss 155 158]) (jc 159 .skip (.exit 6))) (.seq (.block 7 (jq ([jk 17 0]) (.block 8 (.loop (.seq (jq ([jm 162 17,jm 163 16,jB 164 .lss 162
 163]) (jc 164 .skip (.exit 8))) (.seq (.block 9 (.seq (.drw [jo 167 8 7,jl 168 167,jm 169 17,jx 170 3 168 169,jo 171 0 170,jl 172 171,jo 173 8 7,
 jl 174 173,jm 175 16,jx 176 3 174 175,jo 177 0 176,jl 178 177,jB 179 .eql 172 178] [0,1,0,7,15,31,0,64,0,448,960,1984,4095]) (jc 179
 (jq ([.a 6 (.mv kF)]) .ret) .skip))) (.ops [jm 165 17,jb 166 .add 165 1,jm 17 166]))))))) (.ops [jm 160 16,jb 161 .add 160 1,jm 16 161]))))))))))))
 (.ops [jm 39 9,jb 40 .add 39 1,jm 9 40])))))) (jq ([.a 6 (.mv kT)]) .ret)))))
theorem fn_law_StateLegal : Fn Tryd.prog 4 180 [.t 6] s_law_StateLegal:=.of Tryd.func4 (by kernel_rfl)
def s_law_next12 : SCode :=
  (jq ([.a 2 (.box 31 (.t 0)),.a 3 (.box 45 (.t 1)),.a 4 (.alloc 38 [jI,jI,jI,jI,jI,jI,(.f (.v (.string ⟨#[]⟩))),jN,jN])]) (.seq (.drw [jo 6 0
 2,jl 7 6,jb 8 .add 7 1,jo 9 1 2,jl 10 9,jo 11 4 3,jl 12 11,.a 13 (.call (kC 16) [(.t 10),(.t 12)]),jo 14 2 2,jl 15 14,jo 16 3 3,jl 17 16,
 .a 18 (.call (kC 17) [(.t 17),(kI 4)]),jB 19 .add 15 18,jo 20 0 3,jl 21 20,.a 22 (.call (kC 17) [(.t 21),(kI 11)]),.a 23 (.bin .add (kI 2) (.t
 22)),.a 24 (.bld [jI,jI,jI,jI,jI,jI,(.f (.v (.string ⟨#[]⟩))),jN,jN] [(0,1,(.t 8)),(1,1,(.t 13)),(2,1,(.t 19)),(3,1,(.t 23))]),.a
 5 (.alloc 38 [jI,jI,jI,jI,jI,jI,(.f (.v (.string ⟨#[]⟩))),jN,jN]),.n (.store 9 (.t 5) (.t 24))] [0,1,3,0,8,0,32,120,0,256,0,1024,
 3320,8184,0,16384,56568,122104,262143,0,1048575]) (.seq (jq ([jo 25 3 5,jl 26 25]) (.block 0 (.seq (jq ((ap [jb 28 .eql 26 2] [jm 27 28])) (jc
 27 .skip (jq ((ap [jb 29 .eql 26 3] [jm 27 29])) (jc 27 .skip (.ops (ap [jb 30 .eql 26 4] [jm 27 30])))))) (jc 27 (jq ((ap [jo 31 1 3,jl 32 31,jo 33
 6 2,jl 34 33,je 35 34,jb 36 .add 35 1,.a 37 (.call (kC 17) [(.t 32),(.t 36)])] [jo 38 4 5,.n (.store 1 (.t 38) (.t 37))])) (jq ([jo 39 5 5,.n
 (.store 1 (.t 39) (kI 1))]) (.seq (jq ([jo 40 4 5,jl 41 40,jo 42 6 2,jl 43 42,je 44 43,jB 45 .lss 41 44]) (jc 45 (jq ([jo 46 6 2,jl 47 46,jo 48
 4 5,jl 49 48,jx 50 4 47 49,jo 51 1 50,jl 52 51,.a 53 (.mm true (kI 1) (.t 52)),jo 54 5 5,.n (.store 1 (.t 54) (.t 53))]) (jq ([jo 55 3 5,jl 56
 55,jb 57 .eql 56 2]) (jc 57 (.ops [jo 58 6 2,jl 59 58,jo 60 4 5,jl 61 60,jx 62 4 59 61,jo 63 1 62,jl 64 63,jb 65 .add 64 1,.a 66 (.mm false
 (.t 65) (kI 5)),jo 67 5 5,.n (.store 1 (.t 67) (.t 66))]) .skip))) .skip)) (jq ([jo 68 2 3,jl 69 68,jb 70 .rem 69 7,jb 71 .eql 70 6]) (jc 71 (.ops
 (ap [jo 72 2 3,jl 73 72,.a 74 (.call (kC 17) [(.t 73),(kI 5)])] [.a 75 (.bin .add (kI 1) (.t 74)),jo 76 5 5,.n (.store 1 (.t 76) (.t 75))]))
 .skip))))) (jq ((ap [jb 78 .eql 26 5] [jm 77 78])) (jc 77 (jq ((ap [jo 79 1 3,jl 80 79,.a 81 (.call (kC 18) [(.t 80)])] [jo 82 6 5,.n (.store 1 (.t
 82) (.t 81))])) (.ops (ap [jo 83 2 3,jl 84 83,.a 85 (.call (kC 17) [(.t 84),(kI 9)])] [.a 86 (.bin .add (kI 1) (.t 85)),jo 87 5 5,.n (.store 1 (.t
 87) (.t 86))]))) (.seq (jq ((ap [jb 89 .eql 26 6] [jm 88 89])) (jc 88 .skip (.ops (ap [jb 90 .eql 26 7] [jm 88 90])))) (jc 88 (.ops (ap [jo 91 1 3,jl
 92 91,.a 93 (.call (kC 18) [(.t 92)])] [jo 94 6 5,.n (.store 1 (.t 94) (.t 93))])) .skip)))))))) (.seq (jq ((ap [jo 95 3 5,jl 96 95,jb 97 .eql 96
 3] (ap [jm 98 97,gO 99 3 5 98 false] (ap [gL 100 99 98 false,jG 101 (.bin .eql (.t 100) (kI 7)) 98 false] [.a 102 (.pick (.t 98) kT (.t 101))]))))
 (jc 102 (.ops (ap [jo 103 5 3,jl 104 103,.a 105 (.call (kC 19) [(.t 104),(kI 20)])] [jo 106 7 5,.n (.store 1 (.t 106) (.t 105))])) .skip)) (.seq
 (jq ([jo 107 4 3,jl 108 107,jb 109 .rem 108 31]) (.block 1 (jq ((ap [jb 111 .eql 109 30] [jm 110 111])) (jc 110 (.ops [jo 112 0 5,jl 113 112,jb 114
 .add 113 1,jo 115 0 5,.n (.store 1 (.t 115) (.t 114))]) (jq ((ap [jb 117 .eql 109 29] [jm 116 117])) (jc 116 (.ops [jo 118 1 5,.n (.store 1 (.t 118)
 (kI 1))]) (jq ((ap [jb 120 .eql 109 28] [jm 119 120])) (jc 119 (.ops [jo 121 2 5,.n (.store 1 (.t 121) (kI 0))]) (jq ((ap [jb 123 .eql 109 27] [jm 122
 123])) (jc 122 (.ops [jo 124 3 5,.n (.store 1 (.t 124) (kI 1))]) .skip)))))))))) (jq ([jL 125 9 5,.n (.store 9 (.t 4) (.t 125))]) .ret))))))
theorem fn_law_next12 : Fn Tryd.prog 9 126 [.cA 9 4] s_law_next12:=.of Tryd.func9 (by kernel_rfl)
end Go.Proofs.YtgbbpelfpagdoaaDoor.Mir
namespace Go.Proofs.YtgbbpelfpagdoaaDoor.Mir
open Go Go.RowKit
set_option maxHeartbeats 4000000
def rwF (x : Rw) : Row:=.box 45 [D.int x.what,D.int x.a,D.int x.b,D.int x.c,D.int x.v,.f (fY x.data)]
def ev9 : Row:=.box 38 [D.int 0,D.int 0,D.int 0,D.int 0,D.int 0,D.int 0,.f (.v (.string ⟨#[]⟩)),.f (.v (.slice none 0 0)),.f (.v (.slice none 0 0))]
def tyN (x : Rw) : Int:=2 + pick x.what 11
def nodN (s : S12) (x : Rw) (ty : Int) : Int:=if ty = 2 ∨ ty = 3 ∨ ty = 4 then pick x.a (s.nodes.length + 1) else 0
def trN (s : S12) (x : Rw) (ty : Int) : Int :=
  if pick x.a (s.nodes.length + 1) < s.nodes.length then
    (if ty = 2 then min ((gt s.nodes (pick x.a (s.nodes.length + 1)).toNat).tr + 1) 5 else max 1 (gt s.nodes (pick x.a (s.nodes.length + 1)).toNat).tr)
  else 1
def cntN (s : S12) (x : Rw) (ty : Int) : Int :=
  if ty = 2 ∨ ty = 3 ∨ ty = 4 then (if x.b.tmod 7 = 6 then 1 + pick x.b 5 else trN s x ty)
  else if ty = 5 then 1 + pick x.b 9 else 0
def nmN (x : Rw) (ty : Int) : Bs:=if ty = 5 ∨ ty = 6 ∨ ty = 7 then nameL x.a else []
def dtN (x : Rw) (ty : Int) : Bs:=if ty = 3 ∨ ty = 7 then fewL x.data 20 else []
def nextE (s : S12) (x : Rw) : Ev :=
  ⟨if x.v.tmod 31 = 30 then s.id + 1 + 1 else s.id + 1,if x.v.tmod 31 = 29 then 1 else verL s.ver x.v,if x.v.tmod 31 = 28 then 0 else s.time + pick x.c 4,
   if x.v.tmod 31 = 27 then 1 else tyN x,nodN s x (tyN x),cntN s x (tyN x),nmN x (tyN x),dtN x (tyN x),[]⟩
set_option maxRecDepth 100000 in
theorem c_law_next (s : S12) (x : Rw) (hw : Wk12 s) (h1 : 0 ≤ s.ver ∧ s.ver ≤ 4398046511104) (h2 : 0 ≤ s.time ∧ s.time ≤ 4398046511104) (h3 : 0 ≤ s.id ∧ s.id ≤ 1000000) (h4 : ∀ n ∈ s.nodes,0 ≤ n.tr ∧ n.tr ≤ 5) (h5 : s.nodes.length ≤ 20) :
    Con Tryd.prog 9 [stD s,rwD x] [] fun r H'=>r = evD (nextE s x) ∧ H' = []:=by
  refine Con.walk good fn_law_next12 (by simp) ?_
  unfold s_law_next12
  simp only [argsE,stD,rwD]
  have pa:=pick_in (x:=x.a) (n:=s.nodes.length + 1) (by omega)
  have pt:=pick_in (x:=x.what) (n:=11) (by omega)
  have pc:=pick_in (x:=x.c) (n:=4) (by omega)
  have pv:=verL_in s.ver x.v
  have pb5:=pick_in (x:=x.b) (n:=5) (by omega)
  have pb9:=pick_in (x:=x.b) (n:=9) (by omega)
  have ptr : pick x.a (s.nodes.length + 1) < s.nodes.length → 0 ≤ (gt s.nodes (pick x.a (s.nodes.length + 1)).toNat).tr ∧ (gt s.nodes (pick x.a (s.nodes.length + 1)).toNat).tr ≤ 5:=fun h=>h4 _ (gt_mem (by omega))
  refine HS.seq ?_
  repeat' (first|(with_reducible first|refine Wa.h ?_|refine Wr.h ?_|refine Wb.h fun K hK=>?_|(refine hK _ ?_;clear hK K)|(refine wT ?_ ?_;· assumption)|(refine wF ?_ ?_;· assumption))|((with_reducible refine kQ ?_ ?_);kernel_rfl)|((with_reducible refine k1 ?_ ?_);rfl)|((with_reducible refine k0 ?_ ?_);rfl)|((with_reducible apply kB)<;>first|rfl|intro h)|((with_reducible refine kM ?_ ?_);rfl)|(with_reducible refine Wq.h ?_ ?_)<;>intro h<;>try (exfalso;omega)|(with_reducible refine Wu.h ?_ ?_)<;>intro h<;>try simp only [h]|((fail_if_success with_reducible refine Wz.h ?_);first|simp (disch:=omega) only [↓LD,LA,loadA_rf,seval]|((with_reducible refine And.intro ?_ ?_);omega)|simp only [D.int,D.bool]))
  refine HS.seq ?_
  repeat' (first|(with_reducible first|refine Wa.h ?_|refine Wr.h ?_|refine We.h fun K hK=>?_|refine Wd.h fun K M hK hM=>?_|(refine hK _ _ _ _ ?_;clear hK K;try clear hM M)|(refine hM ?_;clear hM M;try clear hK K)|refine Wb.h fun K hK=>?_|(refine hK _ ?_;clear hK K)|(refine wT ?_ ?_;· assumption)|(refine wF ?_ ?_;· assumption))|((with_reducible refine kQ ?_ ?_);kernel_rfl)|((with_reducible refine k1 ?_ ?_);rfl)|((with_reducible refine k0 ?_ ?_);rfl)|((with_reducible apply kB)<;>first|rfl|intro h)|((with_reducible refine kM ?_ ?_);rfl)|(with_reducible refine Wq.h ?_ ?_)<;>intro h<;>try (exfalso;omega)|(with_reducible refine Wu.h ?_ ?_)<;>intro h<;>try simp only [h]|((fail_if_success with_reducible refine Wz.h ?_);first|simp (disch:=omega) only [↓LD,LA,loadA_rf,seval]|((with_reducible refine And.intro ?_ ?_);omega)|simp only [D.int,D.bool]))
  have ht : 2 + pick x.what 11 = tyN x:=rfl
  rw [ht]
  have ht2 : 2 ≤ tyN x ∧ tyN x ≤ 12:=by omega
  refine HS.view (View.bcell 3 7 (.f (.s [] 0)) rfl rfl .ns) ?_
  refine HS.view (View.bcell 3 8 (.f (.s [] 0)) rfl rfl .ns) ?_
  refine HS.seq ?_
  refine HS.cutn (fun y : Int × Int × Bs=>⟨frm 126 [(2,.pt 0 0),(3,.pt 1 0),(4,.pt 2 0),(5,.pt 3 0)],[stF s,rwF x,ev9,evB ⟨s.id + 1,verL s.ver x.v,s.time + pick x.c 4,tyN x,y.1,y.2.1,y.2.2,[],[]⟩],[]⟩) (fun y=>y = (nodN s x (tyN x),cntN s x (tyN x),nmN x (tyN x))) ?_ ?_
  · generalize tyN x = ty at *
    repeat' (first|(with_reducible first|refine Wx.h ?_|refine Wb.h fun K hK=>?_|(refine hK _ ?_;clear hK K)|(refine wT ?_ ?_;· assumption)|(refine wF ?_ ?_;· assumption))|((with_reducible refine kQ ?_ ?_);kernel_rfl)|((with_reducible refine k1 ?_ ?_);rfl)|((with_reducible refine k0 ?_ ?_);rfl)|((with_reducible apply kB)<;>first|rfl|intro h)|((with_reducible refine kM ?_ ?_);rfl)|(with_reducible refine Wq.h ?_ ?_)<;>intro h<;>try (exfalso;omega)|(with_reducible refine Wu.h ?_ ?_)<;>intro h<;>try simp only [h]|((fail_if_success with_reducible refine Wz.h ?_);first|simp (disch:=omega) only [↓LD,LA,loadA_rf,seval,LSt,at1_fNn,len_fNn,Nn.cs]|((with_reducible refine And.intro ?_ ?_);omega)|simp only [D.int,D.bool]))
    · exact OutN.mk [2,3,4,5] (pick x.a (s.nodes.length + 1),1 + pick x.b 5,[]) (by kernel_rfl) (by simp [nodN,cntN,trN,nmN, *])
    · exact OutN.mk [2,3,4,5] (pick x.a (s.nodes.length + 1),min ((gt s.nodes (pick x.a (s.nodes.length + 1)).toNat).tr + 1) 5,[]) (by kernel_rfl) (by simp [nodN,cntN,trN,nmN, *])
    · exact OutN.mk [2,3,4,5] (pick x.a (s.nodes.length + 1),1 + pick x.b 5,[]) (by kernel_rfl) (by simp [nodN,cntN,trN,nmN, *])
    · exact OutN.mk [2,3,4,5] (pick x.a (s.nodes.length + 1),1,[]) (by kernel_rfl) (by simp [nodN,cntN,trN,nmN, *])
    · exact OutN.mk [2,3,4,5] (pick x.a (s.nodes.length + 1),1 + pick x.b 5,[]) (by kernel_rfl) (by simp [nodN,cntN,trN,nmN, *])
    · exact OutN.mk [2,3,4,5] (pick x.a (s.nodes.length + 1),max 1 (gt s.nodes (pick x.a (s.nodes.length + 1)).toNat).tr,[]) (by kernel_rfl) (by simp [nodN,cntN,trN,nmN, *])
    · exact OutN.mk [2,3,4,5] (pick x.a (s.nodes.length + 1),1 + pick x.b 5,[]) (by kernel_rfl) (by simp [nodN,cntN,trN,nmN, *])
    · exact OutN.mk [2,3,4,5] (pick x.a (s.nodes.length + 1),1,[]) (by kernel_rfl) (by simp [nodN,cntN,trN,nmN, *])
    · exact OutN.mk [2,3,4,5] (pick x.a (s.nodes.length + 1),1 + pick x.b 5,[]) (by kernel_rfl) (by simp [nodN,cntN,trN,nmN, *])
    · exact OutN.mk [2,3,4,5] (pick x.a (s.nodes.length + 1),max 1 (gt s.nodes (pick x.a (s.nodes.length + 1)).toNat).tr,[]) (by kernel_rfl) (by simp [nodN,cntN,trN,nmN, *])
    · exact OutN.mk [2,3,4,5] (pick x.a (s.nodes.length + 1),1 + pick x.b 5,[]) (by kernel_rfl) (by simp [nodN,cntN,trN,nmN, *])
    · exact OutN.mk [2,3,4,5] (pick x.a (s.nodes.length + 1),1,[]) (by kernel_rfl) (by simp [nodN,cntN,trN,nmN, *])
    · exact OutN.mk [2,3,4,5] (0,1 + pick x.b 9,nameL x.a) (by kernel_rfl) (by simp [nodN,cntN,trN,nmN, *])
    · exact OutN.mk [2,3,4,5] (0,0,nameL x.a) (by kernel_rfl) (by simp [nodN,cntN,trN,nmN, *])
    · exact OutN.mk [2,3,4,5] (0,0,nameL x.a) (by kernel_rfl) (by simp [nodN,cntN,trN,nmN, *])
    · exact OutN.mk [2,3,4,5] (0,0,[]) (by kernel_rfl) (by simp [nodN,cntN,trN,nmN, *])
  rintro _ rfl s' hv
  refine thenQ_n ?_
  refine HS.view hv ?_
  clear hv s'
  dsimp only
  generalize hcn : cntN s x (tyN x) = cn
  generalize hnd : nodN s x (tyN x) = nd
  refine HS.seq ?_
  refine HS.cutn (fun _ : Unit=>⟨frm 126 [(2,.pt 0 0),(3,.pt 1 0),(4,.pt 2 0),(5,.pt 3 0)],[stF s,rwF x,ev9,evB ⟨s.id + 1,verL s.ver x.v,s.time + pick x.c 4,tyN x,nd,cn,nmN x (tyN x),dtN x (tyN x),[]⟩],[]⟩) (fun _=>True) ?_ ?_
  · generalize tyN x = ty at *
    repeat' (first|(with_reducible first|refine Wx.h ?_|refine Wb.h fun K hK=>?_|(refine hK _ ?_;clear hK K)|(refine wT ?_ ?_;· assumption)|(refine wF ?_ ?_;· assumption))|((with_reducible refine kQ ?_ ?_);kernel_rfl)|((with_reducible refine k1 ?_ ?_);rfl)|((with_reducible refine k0 ?_ ?_);rfl)|((with_reducible apply kB)<;>first|rfl|intro h)|((with_reducible refine kM ?_ ?_);rfl)|(with_reducible refine Wq.h ?_ ?_)<;>intro h<;>try (exfalso;omega)|(with_reducible refine Wu.h ?_ ?_)<;>intro h<;>try simp only [h]|((fail_if_success with_reducible refine Wz.h ?_);first|simp (disch:=omega) only [↓LD,LA,loadA_rf,seval,LSt,stF,rwF,evB]|((with_reducible refine And.intro ?_ ?_);omega)|simp only [D.int,D.bool]))
    · refine OutN.mk [2,3,4,5] () ?_ trivial;rw [show dtN x ty = _ from if_pos (by omega)];kernel_rfl
    · refine OutN.mk [2,3,4,5] () ?_ trivial;rw [show dtN x ty = _ from if_pos (by omega)];kernel_rfl
    · refine OutN.mk [2,3,4,5] () ?_ trivial;rw [show dtN x ty = _ from if_neg (by omega)];kernel_rfl
  rintro _ - s' hv
  refine thenQ_n ?_
  refine HS.view hv ?_
  clear hv s'
  generalize hdt : dtN x (tyN x) = dt
  generalize hnm : nmN x (tyN x) = nm
  have hv1 : x.v.tmod 31 < 31:=Int.tmod_lt_of_pos _ (by omega)
  repeat' (first|(with_reducible first|refine Wx.h ?_|refine Wb.h fun K hK=>?_|(refine hK _ ?_;clear hK K)|(refine wT ?_ ?_;· assumption)|(refine wF ?_ ?_;· assumption))|((with_reducible refine kQ ?_ ?_);kernel_rfl)|((with_reducible refine k1 ?_ ?_);rfl)|((with_reducible refine k0 ?_ ?_);rfl)|((with_reducible apply kB)<;>first|rfl|intro h)|((with_reducible refine kM ?_ ?_);rfl)|(with_reducible refine Wq.h ?_ ?_)<;>intro h<;>try (exfalso;omega)|(with_reducible refine Wu.h ?_ ?_)<;>intro h<;>try simp only [h]|((fail_if_success with_reducible refine Wz.h ?_);first|simp (disch:=omega) only [↓LD,LA,loadA_rf,seval,LSt,stF,rwF,evB,ev9]|((with_reducible refine And.intro ?_ ?_);omega)|simp only [D.int,D.bool]))
  · rw [show nextE s x = ⟨s.id + 1 + 1,verL s.ver x.v,s.time + pick x.c 4,tyN x,nd,cn,nm,dt,[]⟩ by simp [nextE, *]];exact RetS.still (ds:=[evD ⟨s.id + 1 + 1,verL s.ver x.v,s.time + pick x.c 4,tyN x,nd,cn,nm,dt,[]⟩]) (by kernel_rfl) (by kernel_rfl) vws_evD ⟨rfl,rfl⟩
  · rw [show nextE s x = ⟨s.id + 1,1,s.time + pick x.c 4,tyN x,nd,cn,nm,dt,[]⟩ by simp [nextE, *]];exact RetS.still (ds:=[evD ⟨s.id + 1,1,s.time + pick x.c 4,tyN x,nd,cn,nm,dt,[]⟩]) (by kernel_rfl) (by kernel_rfl) vws_evD ⟨rfl,rfl⟩
  · rw [show nextE s x = ⟨s.id + 1,verL s.ver x.v,0,tyN x,nd,cn,nm,dt,[]⟩ by simp [nextE, *]];exact RetS.still (ds:=[evD ⟨s.id + 1,verL s.ver x.v,0,tyN x,nd,cn,nm,dt,[]⟩]) (by kernel_rfl) (by kernel_rfl) vws_evD ⟨rfl,rfl⟩
  · rw [show nextE s x = ⟨s.id + 1,verL s.ver x.v,s.time + pick x.c 4,1,nd,cn,nm,dt,[]⟩ by simp [nextE, *]];exact RetS.still (ds:=[evD ⟨s.id + 1,verL s.ver x.v,s.time + pick x.c 4,1,nd,cn,nm,dt,[]⟩]) (by kernel_rfl) (by kernel_rfl) vws_evD ⟨rfl,rfl⟩
  · rw [show nextE s x = ⟨s.id + 1,verL s.ver x.v,s.time + pick x.c 4,tyN x,nd,cn,nm,dt,[]⟩ by simp [nextE, *]];exact RetS.still (ds:=[evD ⟨s.id + 1,verL s.ver x.v,s.time + pick x.c 4,tyN x,nd,cn,nm,dt,[]⟩]) (by kernel_rfl) (by kernel_rfl) vws_evD ⟨rfl,rfl⟩
end Go.Proofs.YtgbbpelfpagdoaaDoor.Mir
namespace Go.Proofs.YtgbbpelfpagdoaaDoor.Mir
open Go Go.RowKit
set_option maxHeartbeats 4000000
instance : Kn (([] : Bs).length ≤ 1000000):=⟨by simp⟩
instance : Kn (Fit []):=⟨by simp [Fit]⟩
instance {s : S12} {ver now : Int} {out : List Ev} {H : List Row} {K : D → List Row → Prop} {a b c ty node n : Int} {nm dt df : D} {nm' dt' : Bs} {df' : List Nd} [h1 : StrC nm nm'] [h2 : DatC dt dt'] [h3 : DefC df df'] [ho : Kn (Ok12 s)] [hl : Kn (out.length ≤ 1000000)] [k1 : Kn (nm'.length ≤ 1000000)] [k2 : Kn (dt'.length ≤ 1000000)] [k3 : Kn (Fit df')] :
    Wa (callW Tryd.prog (.fn 62 []) [.pt 0 0,.ag [.f (.v (.int .i64 a)),.f (.v (.int .i64 b)),.f (.v (.int .i64 c)),.f (.v (.int .i64 ty)),.f (.v (.int .i64 node)),.f (.v (.int .i64 n)),nm,dt,df]]
      (.box 67 [.f (.v (.int .i64 s.id)),.f (.v (.int .i64 s.ver)),.f (.v (.int .i64 s.time)),.f (.v (.int .i64 s.closed)),.f (.v (.bool s.cancel)),.f (fG s.defs),.f (fNn s.nodes),.f (fTm s.tms),.f (fSg s.sgs),.f (.v (.int .i64 ver)),.f (.v (.int .i64 now)),.f (fEv out)] :: H) K)
    (K (.f (.v (.int .i64 (writeP ⟨s,ver,now,out⟩ ⟨a,b,c,ty,node,n,nm',dt',df'⟩).1))) (pnB (writeP ⟨s,ver,now,out⟩ ⟨a,b,c,ty,node,n,nm',dt',df'⟩).2 :: H)):=⟨fun h=>by
  obtain ⟨h1⟩:=h1;obtain ⟨h2⟩:=h2;obtain ⟨h3⟩:=h3
  subst h1
  refine callW_less (args0:=[.pt 0 0,evD ⟨a,b,c,ty,node,n,nm',dt',df'⟩]) ?_ (.cons .refl (.cons (WD.ags (.cons .refl (.cons .refl (.cons .refl (.cons .refl (.cons .refl (.cons .refl (.cons .refl (.cons h2 (.cons h3 .nil)))))))))) .nil))
  exact callW_own (c_pen_write ⟨s,ver,now,out⟩ ⟨a,b,c,ty,node,n,nm',dt',df'⟩ ho.h ⟨k2.h,k1.h,k3.h⟩ hl.h) rfl rfl (fun _=>rfl) (fun _=>rfl) (fun _=>rfl) (fun _=>rfl) h⟩
def openP (s : S12) : Int:=if s.id = 0 then 3 else if s.closed ≠ 0 then 12 else 0
theorem c_pen_open (p : Pn) : Con Tryd.prog 63 [.pt 0 0] [pnB p] fun r H'=>r = D.int (openP p.s) ∧ H' = [pnB p]:=by
  refine Con.walk good fn_pen_open (by simp) ?_
  unfold s_pen_open
  simp only [argsE,pnB,pnD]
  repeat' (first|(with_reducible first|refine Wx.h ?_|refine Wb.h fun K hK=>?_|(refine hK _ ?_;clear hK K)|(refine wT ?_ ?_;· assumption)|(refine wF ?_ ?_;· assumption))|((with_reducible refine kQ ?_ ?_);kernel_rfl)|((with_reducible refine k1 ?_ ?_);rfl)|((with_reducible refine k0 ?_ ?_);rfl)|((with_reducible apply kB)<;>first|rfl|intro h)|((with_reducible refine kM ?_ ?_);rfl)|(with_reducible refine Wq.h ?_ ?_)<;>intro h<;>try (exfalso;omega)|(with_reducible refine Wu.h ?_ ?_)<;>intro h<;>try simp only [h]|((fail_if_success with_reducible refine Wz.h ?_);first|simp (disch:=omega) only [↓LD,LA,loadA_rf,seval]|((with_reducible refine And.intro ?_ ?_);omega)|simp only [D.int,D.bool]))
  all_goals (refine end1 rfl rfl (by kernel_rfl) .f ⟨congrArg D.int ?_,rfl⟩;simp [openP, *])
instance {s : S12} {ver now : Int} {out : List Ev} {H : List Row} {K : D → List Row → Prop} :
    Wa (callW Tryd.prog (.fn 63 []) [.pt 0 0]
      (.box 67 [.f (.v (.int .i64 s.id)),.f (.v (.int .i64 s.ver)),.f (.v (.int .i64 s.time)),.f (.v (.int .i64 s.closed)),.f (.v (.bool s.cancel)),.f (fG s.defs),.f (fNn s.nodes),.f (fTm s.tms),.f (fSg s.sgs),.f (.v (.int .i64 ver)),.f (.v (.int .i64 now)),.f (fEv out)] :: H) K)
    (K (.f (.v (.int .i64 (openP s)))) (.box 67 [.f (.v (.int .i64 s.id)),.f (.v (.int .i64 s.ver)),.f (.v (.int .i64 s.time)),.f (.v (.int .i64 s.closed)),.f (.v (.bool s.cancel)),.f (fG s.defs),.f (fNn s.nodes),.f (fTm s.tms),.f (fSg s.sgs),.f (.v (.int .i64 ver)),.f (.v (.int .i64 now)),.f (fEv out)] :: H)):=⟨fun h =>
  callW_own (c_pen_open ⟨s,ver,now,out⟩) rfl rfl (fun _=>rfl) (fun _=>rfl) (fun _=>rfl) (fun _=>rfl) h⟩
instance {s : S12} {H : List Row} {K : D → List Row → Prop} [hs : Kn (Wk12 s)] : Wa (callW Tryd.prog (.fn 64 []) [.ag [.f (.v (.int .i64 s.id)),.f (.v (.int .i64 s.ver)),.f (.v (.int .i64 s.time)),.f (.v (.int .i64 s.closed)),.f (.v (.bool s.cancel)),.f (fG s.defs),.f (fNn s.nodes),.f (fTm s.tms),.f (fSg s.sgs)]] H K)
    (K (.f (fI (readyR s))) H):=⟨fun h=>callW_pure (c_ref_ReadyNodesF s hs.h.fit.defs hs.h.pos hs.h.fit.fit.nodes hs.h.len) rfl rfl rfl h⟩
instance {s : S12} {nm : Bs} {H : List Row} {K : D → List Row → Prop} [hs : Kn (Wk12 s)] : Wa (callW Tryd.prog (.fn 66 []) [.ag [.f (.v (.int .i64 s.id)),.f (.v (.int .i64 s.ver)),.f (.v (.int .i64 s.time)),.f (.v (.int .i64 s.closed)),.f (.v (.bool s.cancel)),.f (fG s.defs),.f (fNn s.nodes),.f (fTm s.tms),.f (fSg s.sgs)],.f (.v (.string (BB nm)))] H K)
    (K (.f (.v (.bool (hasSg s.sgs nm)))) H):=⟨fun h=>callW_pure (c_ref_Has s nm hs.h.fit.fit.sgs) rfl rfl rfl h⟩
def startP (p : Pn) (ds : List Nd) : Int × Pn:=if 0 < p.s.id then (13,p) else if checkL ds ≠ 0 then (checkL ds,p) else writeP p ⟨0,0,0,1,0,0,[],[],ds⟩
theorem end3 {n0 n t u v : Nat} {e : List (Nat × D)} {H : List Row} {dr : List Nat} {d f g : F} {Q : D → List Row → Prop} (ht : Nat.blt t n = true) (hu : Nat.blt u n = true) (hv : Nat.blt v n = true) (h : look t e = .f d) (k : look u e = .f f) (m : look v e = .f g) (hl : lowB n0 (H.take n0) = true) (q : Q (.tp [.f d,.f f,.f g]) (H.take n0)) : RetS n0 [.t t,.t u,.t v] Q ⟨frm n e,H,dr⟩:=by
  refine .still (ds:=[.f d,.f f,.f g]) ?_ hl (.tps (.cons .f (.cons .f (.cons .f .nil)))) q
  simp only [resS]
  rw [frm_getD (by simpa using ht),frm_getD (by simpa using hu),frm_getD (by simpa using hv),h,k,m]
theorem c_pen_Start (p : Pn) (ds : List Nd) (ho : Ok12 p.s) (hl : p.out.length ≤ 1000000) (hf : Fit ds) : Con Tryd.prog 34 [.pt 0 0,.f (fG ds)] [pnB p] fun r H'=>r = D.int (startP p ds).1 ∧ H' = [pnB (startP p ds).2]:=by
  obtain ⟨s,ver,now,out⟩:=p
  suffices hh : ∀ Q : D → List Row → Prop,(∀ r H',r = D.int (startP ⟨s,ver,now,out⟩ ds).1 → H' = [pnB (startP ⟨s,ver,now,out⟩ ds).2] → Q r H') → Con Tryd.prog 34 [.pt 0 0,.f (fG ds)] [pnB ⟨s,ver,now,out⟩] Q from hh _ fun _ _ h1 h2=>⟨h1,h2⟩
  intro Q hQ
  dsimp only at ho hl
  haveI : Kn (Ok12 s):=⟨ho⟩
  haveI : Kn (Wk12 s):=⟨ho.wk⟩
  haveI : Kn (out.length ≤ 1000000):=⟨hl⟩
  haveI : Kn (Fit ds):=⟨hf⟩
  refine Con.walk good fn_pen_Start (by simp) ?_
  unfold s_pen_Start
  simp only [argsE,pnB,pnD]
  repeat' (first|(with_reducible first|refine Wx.h ?_|refine Wb.h fun K hK=>?_|(refine hK _ ?_;clear hK K)|(refine wT ?_ ?_;· assumption)|(refine wF ?_ ?_;· assumption))|((with_reducible refine kQ ?_ ?_);kernel_rfl)|((with_reducible refine k1 ?_ ?_);rfl)|((with_reducible refine k0 ?_ ?_);rfl)|((with_reducible apply kB)<;>first|rfl|intro h)|((with_reducible refine kM ?_ ?_);rfl)|(with_reducible refine Wq.h ?_ ?_)<;>intro h<;>try (exfalso;omega)|(with_reducible refine Wu.h ?_ ?_)<;>intro h<;>try simp only [h]|((fail_if_success with_reducible refine Wz.h ?_);first|simp (disch:=omega) only [↓LD,LA,loadA_rf,seval]|((with_reducible refine And.intro ?_ ?_);omega)|simp only [D.int,D.bool]))
  all_goals exact end1 rfl rfl (by kernel_rfl) .f (hQ _ _ (by simp only [startP,ne_eq, *,not_false_eq_true,not_true_eq_false,↓reduceIte,or_true,true_or,or_false,false_or,or_self,Bool.false_eq_true,Bool.true_eq_false,and_true,true_and,and_false,false_and]<;>rfl) (by simp only [startP,ne_eq, *,not_false_eq_true,not_true_eq_false,↓reduceIte,or_true,true_or,or_false,false_or,or_self,Bool.false_eq_true,Bool.true_eq_false,and_true,true_and,and_false,false_and]<;>rfl))
theorem readyR_gt {s : S12} (h : Ok12 s) (hn : (readyR s).length ≠ 0) : 0 ≤ gt (readyR s) 0 ∧ gt (readyR s) 0 < s.nodes.length ∧ 0 ≤ (gt s.nodes (gt (readyR s) 0).toNat).tr ∧ (gt s.nodes (gt (readyR s) 0).toNat).tr ≤ 5:=by
  have hm:=gt_mem (l:=readyR s) (k:=0) (by omega)
  have h1:=readyR_in hm
  have h2:=rdy_pos h1.2.2.2.2
  have h3:=h.tr _ (gt_mem (l:=s.nodes) (k:=(gt (readyR s) 0).toNat) (by omega))
  exact ⟨by omega,h1.1,h3.1,h3.2⟩
def tri (x : Int × Int × Int) : List D:=[D.int x.1,D.int x.2.1,D.int x.2.2]
def beginP (p : Pn) : (Int × Int × Int) × Pn :=
  if openP p.s ≠ 0 then ((0,0,openP p.s),p) else if ((readyR p.s).length : Int) = 0 then ((0,0,3),p)
  else if (writeP p ⟨0,0,0,2,gt (readyR p.s) 0,(gt p.s.nodes (gt (readyR p.s) 0).toNat).tr + 1,[],[],[]⟩).1 ≠ 0 then ((0,0,(writeP p ⟨0,0,0,2,gt (readyR p.s) 0,(gt p.s.nodes (gt (readyR p.s) 0).toNat).tr + 1,[],[],[]⟩).1),(writeP p ⟨0,0,0,2,gt (readyR p.s) 0,(gt p.s.nodes (gt (readyR p.s) 0).toNat).tr + 1,[],[],[]⟩).2)
  else ((gt (readyR p.s) 0,(gt p.s.nodes (gt (readyR p.s) 0).toNat).tr + 1,0),(writeP p ⟨0,0,0,2,gt (readyR p.s) 0,(gt p.s.nodes (gt (readyR p.s) 0).toNat).tr + 1,[],[],[]⟩).2)
theorem c_pen_Begin (p : Pn) (ho : Ok12 p.s) (hl : p.out.length ≤ 1000000) : Con Tryd.prog 36 [.pt 0 0] [pnB p] fun r H'=>r = .tp (tri (beginP p).1) ∧ H' = [pnB (beginP p).2]:=by
  obtain ⟨s,ver,now,out⟩:=p
  suffices hh : ∀ Q : D → List Row → Prop,(∀ r H',r = .tp (tri (beginP ⟨s,ver,now,out⟩).1) → H' = [pnB (beginP ⟨s,ver,now,out⟩).2] → Q r H') → Con Tryd.prog 36 [.pt 0 0] [pnB ⟨s,ver,now,out⟩] Q from hh _ fun _ _ h1 h2=>⟨h1,h2⟩
  intro Q hQ
  dsimp only at ho hl
  haveI : Kn (Ok12 s):=⟨ho⟩
  haveI : Kn (Wk12 s):=⟨ho.wk⟩
  haveI : Kn (out.length ≤ 1000000):=⟨hl⟩
  have hg:=fun h=>readyR_gt ho h
  refine Con.walk good fn_pen_Begin (by simp) ?_
  unfold s_pen_Begin
  simp only [argsE,pnB,pnD]
  repeat' (first|(with_reducible first|refine Wx.h ?_|refine We.h fun K hK=>?_|refine Wd.h fun K M hK hM=>?_|(refine hK _ _ _ _ ?_;clear hK K;try clear hM M)|(refine hM ?_;clear hM M;try clear hK K)|refine Wb.h fun K hK=>?_|(refine hK _ ?_;clear hK K)|(refine wT ?_ ?_;· assumption)|(refine wF ?_ ?_;· assumption))|((with_reducible refine kQ ?_ ?_);kernel_rfl)|((with_reducible refine k1 ?_ ?_);rfl)|((with_reducible refine k0 ?_ ?_);rfl)|((with_reducible apply kB)<;>first|rfl|intro h)|((with_reducible refine kM ?_ ?_);rfl)|(with_reducible refine Wq.h ?_ ?_)<;>intro h<;>try (exfalso;omega)|(with_reducible refine Wu.h ?_ ?_)<;>intro h<;>try simp only [h]|((fail_if_success with_reducible refine Wz.h ?_);first|simp (disch:=omega) only [↓LD,LA,loadA_rf,seval,LSt,at1_fNn,len_fNn,Nn.cs]|((with_reducible refine And.intro ?_ ?_);omega)|simp only [D.int,D.bool]))
  all_goals exact end3 rfl rfl rfl rfl rfl rfl (by kernel_rfl) (hQ _ _ (by simp only [beginP,tri,ne_eq, *,not_false_eq_true,not_true_eq_false,↓reduceIte,or_true,true_or,or_false,false_or,or_self,Bool.false_eq_true,Bool.true_eq_false,and_true,true_and,and_false,false_and]<;>rfl) (by simp only [beginP,tri,ne_eq, *,not_false_eq_true,not_true_eq_false,↓reduceIte,or_true,true_or,or_false,false_or,or_self,Bool.false_eq_true,Bool.true_eq_false,and_true,true_and,and_false,false_and]<;>rfl))
def finishP (p : Pn) (node try_ : Int) (ok : Bool) (data : Bs) : Int × Pn :=
  if openP p.s ≠ 0 then (openP p.s,p) else if node < 0 then (1,p) else if (p.s.nodes.length : Int) ≤ node then (1,p) else if (40 : Int) < data.length then (1,p) else if ok = false ∧ (0 : Int) < data.length then (1,p)
  else if ¬ (gt p.s.nodes node.toNat).st = 1 then (4,p) else if ¬ (gt p.s.nodes node.toNat).tr = try_ then (4,p)
  else if ok = true then writeP p ⟨0,0,0,3,node,try_,[],data,[]⟩ else writeP p ⟨0,0,0,4,node,try_,[],[],[]⟩
theorem c_pen_Finish (p : Pn) (node : Int) (try_ : Int) (ok : Bool) (data : Bs) (ho : Ok12 p.s) (hl : p.out.length ≤ 1000000) (hd : data.length ≤ 1000000) : Con Tryd.prog 37 [.pt 0 0,D.int node,D.int try_,D.bool ok,.f (fY data)] [pnB p] fun r H'=>r = D.int (finishP p node try_ ok data).1 ∧ H' = [pnB (finishP p node try_ ok data).2]:=by
  obtain ⟨s,ver,now,out⟩:=p
  suffices hh : ∀ Q : D → List Row → Prop,(∀ r H',r = D.int (finishP ⟨s,ver,now,out⟩ node try_ ok data).1 → H' = [pnB (finishP ⟨s,ver,now,out⟩ node try_ ok data).2] → Q r H') → Con Tryd.prog 37 [.pt 0 0,D.int node,D.int try_,D.bool ok,.f (fY data)] [pnB ⟨s,ver,now,out⟩] Q from hh _ fun _ _ h1 h2=>⟨h1,h2⟩
  intro Q hQ
  dsimp only at ho hl
  haveI : Kn (Ok12 s):=⟨ho⟩
  haveI : Kn (Wk12 s):=⟨ho.wk⟩
  haveI : Kn (out.length ≤ 1000000):=⟨hl⟩
  haveI : Kn (data.length ≤ 1000000):=⟨hd⟩
  refine Con.walk good fn_pen_Finish (by simp) ?_
  unfold s_pen_Finish
  simp only [argsE,pnB,pnD]
  cases ok
  all_goals
    repeat' (first|(with_reducible first|refine Wx.h ?_|refine We.h fun K hK=>?_|refine Wd.h fun K M hK hM=>?_|(refine hK _ _ _ _ ?_;clear hK K;try clear hM M)|(refine hM ?_;clear hM M;try clear hK K)|refine Wb.h fun K hK=>?_|(refine hK _ ?_;clear hK K)|(refine wT ?_ ?_;· assumption)|(refine wF ?_ ?_;· assumption))|((with_reducible refine kQ ?_ ?_);kernel_rfl)|((with_reducible refine k1 ?_ ?_);rfl)|((with_reducible refine k0 ?_ ?_);rfl)|((with_reducible apply kB)<;>first|rfl|intro h)|((with_reducible refine kM ?_ ?_);rfl)|(with_reducible refine Wq.h ?_ ?_)<;>intro h<;>try (exfalso;omega)|(with_reducible refine Wu.h ?_ ?_)<;>intro h<;>try simp only [h]|((fail_if_success with_reducible refine Wz.h ?_);first|simp (disch:=omega) only [↓LD,LA,loadA_rf,seval,LSt,at0_fNn,at1_fNn,len_fNn,Nn.cs]|((with_reducible refine And.intro ?_ ?_);omega)|simp only [D.int,D.bool]))
  all_goals exact end1 rfl rfl (by kernel_rfl) .f (hQ _ _ (by simp only [finishP,ne_eq, *,not_false_eq_true,not_true_eq_false,↓reduceIte,or_true,true_or,or_false,false_or,or_self,Bool.false_eq_true,Bool.true_eq_false,and_true,true_and,and_false,false_and]<;>rfl) (by simp only [finishP,ne_eq, *,not_false_eq_true,not_true_eq_false,↓reduceIte,or_true,true_or,or_false,false_or,or_self,Bool.false_eq_true,Bool.true_eq_false,and_true,true_and,and_false,false_and]<;>rfl))
def armP (p : Pn) (name : Bs) (span : Int) : Int × Pn :=
  if openP p.s ≠ 0 then (openP p.s,p) else if (!nameB name) = true then (1,p) else if span < 1 then (1,p) else if 1048576 < span then (1,p) else writeP p ⟨0,0,0,5,0,span,name,[],[]⟩
theorem c_pen_Arm (p : Pn) (name : Bs) (span : Int) (ho : Ok12 p.s) (hl : p.out.length ≤ 1000000) (hd : name.length ≤ 1000000) : Con Tryd.prog 38 [.pt 0 0,.f (.v (.string (BB name))),D.int span] [pnB p] fun r H'=>r = D.int (armP p name span).1 ∧ H' = [pnB (armP p name span).2]:=by
  obtain ⟨s,ver,now,out⟩:=p
  suffices hh : ∀ Q : D → List Row → Prop,(∀ r H',r = D.int (armP ⟨s,ver,now,out⟩ name span).1 → H' = [pnB (armP ⟨s,ver,now,out⟩ name span).2] → Q r H') → Con Tryd.prog 38 [.pt 0 0,.f (.v (.string (BB name))),D.int span] [pnB ⟨s,ver,now,out⟩] Q from hh _ fun _ _ h1 h2=>⟨h1,h2⟩
  intro Q hQ
  dsimp only at ho hl
  haveI : Kn (Ok12 s):=⟨ho⟩
  haveI : Kn (Wk12 s):=⟨ho.wk⟩
  haveI : Kn (out.length ≤ 1000000):=⟨hl⟩
  haveI : Kn (name.length ≤ 1000000):=⟨hd⟩
  refine Con.walk good fn_pen_Arm (by simp) ?_
  unfold s_pen_Arm
  simp only [argsE,pnB,pnD]
  repeat' (first|(with_reducible first|refine Wx.h ?_|refine We.h fun K hK=>?_|refine Wd.h fun K M hK hM=>?_|(refine hK _ _ _ _ ?_;clear hK K;try clear hM M)|(refine hM ?_;clear hM M;try clear hK K)|refine Wb.h fun K hK=>?_|(refine hK _ ?_;clear hK K)|(refine wT ?_ ?_;· assumption)|(refine wF ?_ ?_;· assumption))|((with_reducible refine kQ ?_ ?_);kernel_rfl)|((with_reducible refine k1 ?_ ?_);rfl)|((with_reducible refine k0 ?_ ?_);rfl)|((with_reducible apply kB)<;>first|rfl|intro h)|((with_reducible refine kM ?_ ?_);rfl)|(with_reducible refine Wq.h ?_ ?_)<;>intro h<;>try (exfalso;omega)|(with_reducible refine Wu.h ?_ ?_)<;>intro h<;>try simp only [h]|((fail_if_success with_reducible refine Wz.h ?_);first|simp (disch:=omega) only [↓LD,LA,loadA_rf,seval]|((with_reducible refine And.intro ?_ ?_);omega)|simp only [D.int,D.bool]))
  all_goals exact end1 rfl rfl (by kernel_rfl) .f (hQ _ _ (by simp only [armP,ne_eq, *,not_false_eq_true,not_true_eq_false,↓reduceIte,or_true,true_or,or_false,false_or,or_self,Bool.false_eq_true,Bool.true_eq_false,and_true,true_and,and_false,false_and]<;>rfl) (by simp only [armP,ne_eq, *,not_false_eq_true,not_true_eq_false,↓reduceIte,or_true,true_or,or_false,false_or,or_self,Bool.false_eq_true,Bool.true_eq_false,and_true,true_and,and_false,false_and]<;>rfl))
def signalP (p : Pn) (name data : Bs) : (Bool × Int) × Pn :=
  if p.s.id = 0 then ((false,3),p) else if (!nameB name) = true then ((false,1),p) else if (40 : Int) < data.length then ((false,1),p) else if hasSg p.s.sgs name = true then ((false,0),p) else if p.s.closed ≠ 0 then ((false,12),p)
  else if (writeP p ⟨0,0,0,7,0,0,name,data,[]⟩).1 ≠ 0 then ((false,(writeP p ⟨0,0,0,7,0,0,name,data,[]⟩).1),(writeP p ⟨0,0,0,7,0,0,name,data,[]⟩).2) else ((true,0),(writeP p ⟨0,0,0,7,0,0,name,data,[]⟩).2)
def duo (x : Bool × Int) : List D:=[D.bool x.1,D.int x.2]
theorem c_pen_Signal (p : Pn) (name : Bs) (data : Bs) (ho : Ok12 p.s) (hl : p.out.length ≤ 1000000) (hn : name.length ≤ 1000000) (hd : data.length ≤ 1000000) : Con Tryd.prog 39 [.pt 0 0,.f (.v (.string (BB name))),.f (fY data)] [pnB p] fun r H'=>r = .tp (duo (signalP p name data).1) ∧ H' = [pnB (signalP p name data).2]:=by
  obtain ⟨s,ver,now,out⟩:=p
  suffices hh : ∀ Q : D → List Row → Prop,(∀ r H',r = .tp (duo (signalP ⟨s,ver,now,out⟩ name data).1) → H' = [pnB (signalP ⟨s,ver,now,out⟩ name data).2] → Q r H') → Con Tryd.prog 39 [.pt 0 0,.f (.v (.string (BB name))),.f (fY data)] [pnB ⟨s,ver,now,out⟩] Q from hh _ fun _ _ h1 h2=>⟨h1,h2⟩
  intro Q hQ
  dsimp only at ho hl
  haveI : Kn (Ok12 s):=⟨ho⟩
  haveI : Kn (Wk12 s):=⟨ho.wk⟩
  haveI : Kn (out.length ≤ 1000000):=⟨hl⟩
  haveI : Kn (name.length ≤ 1000000):=⟨hn⟩
  haveI : Kn (data.length ≤ 1000000):=⟨hd⟩
  refine Con.walk good fn_pen_Signal (by simp) ?_
  unfold s_pen_Signal
  simp only [argsE,pnB,pnD]
  repeat' (first|(with_reducible first|refine Wx.h ?_|refine We.h fun K hK=>?_|refine Wd.h fun K M hK hM=>?_|(refine hK _ _ _ _ ?_;clear hK K;try clear hM M)|(refine hM ?_;clear hM M;try clear hK K)|refine Wb.h fun K hK=>?_|(refine hK _ ?_;clear hK K)|(refine wT ?_ ?_;· assumption)|(refine wF ?_ ?_;· assumption))|((with_reducible refine kQ ?_ ?_);kernel_rfl)|((with_reducible refine k1 ?_ ?_);rfl)|((with_reducible refine k0 ?_ ?_);rfl)|((with_reducible apply kB)<;>first|rfl|intro h)|((with_reducible refine kM ?_ ?_);rfl)|(with_reducible refine Wq.h ?_ ?_)<;>intro h<;>try (exfalso;omega)|(with_reducible refine Wu.h ?_ ?_)<;>intro h<;>try simp only [h]|((fail_if_success with_reducible refine Wz.h ?_);first|simp (disch:=omega) only [↓LD,LA,loadA_rf,seval]|((with_reducible refine And.intro ?_ ?_);omega)|simp only [D.int,D.bool]))
  all_goals exact end2 rfl rfl rfl rfl (by kernel_rfl) (.tps (.cons .f (.cons .f .nil))) (hQ _ _ (by simp only [signalP,duo,ne_eq, *,not_false_eq_true,not_true_eq_false,↓reduceIte,or_true,true_or,or_false,false_or,or_self,Bool.false_eq_true,Bool.true_eq_false,and_true,true_and,and_false,false_and]<;>rfl) (by first|(unfold signalP;rw [if_pos (by assumption)];rfl)|simp only [signalP,duo,ne_eq, *,not_false_eq_true,not_true_eq_false,↓reduceIte,or_true,true_or,or_false,false_or,or_self,Bool.false_eq_true,Bool.true_eq_false,and_true,true_and,and_false,false_and]<;>rfl))
def cancelP (p : Pn) : Int × Pn:=if openP p.s ≠ 0 then (openP p.s,p) else writeP p ⟨0,0,0,8,0,0,[],[],[]⟩
theorem c_pen_Cancel (p : Pn) (ho : Ok12 p.s) (hl : p.out.length ≤ 1000000) : Con Tryd.prog 41 [.pt 0 0] [pnB p] fun r H'=>r = D.int (cancelP p).1 ∧ H' = [pnB (cancelP p).2]:=by
  obtain ⟨s,ver,now,out⟩:=p
  suffices hh : ∀ Q : D → List Row → Prop,(∀ r H',r = D.int (cancelP ⟨s,ver,now,out⟩).1 → H' = [pnB (cancelP ⟨s,ver,now,out⟩).2] → Q r H') → Con Tryd.prog 41 [.pt 0 0] [pnB ⟨s,ver,now,out⟩] Q from hh _ fun _ _ h1 h2=>⟨h1,h2⟩
  intro Q hQ
  dsimp only at ho hl
  haveI : Kn (Ok12 s):=⟨ho⟩
  haveI : Kn (Wk12 s):=⟨ho.wk⟩
  haveI : Kn (out.length ≤ 1000000):=⟨hl⟩
  refine Con.walk good fn_pen_Cancel (by simp) ?_
  unfold s_pen_Cancel
  simp only [argsE,pnB,pnD]
  repeat' (first|(with_reducible first|refine Wx.h ?_|refine We.h fun K hK=>?_|refine Wd.h fun K M hK hM=>?_|(refine hK _ _ _ _ ?_;clear hK K;try clear hM M)|(refine hM ?_;clear hM M;try clear hK K)|refine Wb.h fun K hK=>?_|(refine hK _ ?_;clear hK K)|(refine wT ?_ ?_;· assumption)|(refine wF ?_ ?_;· assumption))|((with_reducible refine kQ ?_ ?_);kernel_rfl)|((with_reducible refine k1 ?_ ?_);rfl)|((with_reducible refine k0 ?_ ?_);rfl)|((with_reducible apply kB)<;>first|rfl|intro h)|((with_reducible refine kM ?_ ?_);rfl)|(with_reducible refine Wq.h ?_ ?_)<;>intro h<;>try (exfalso;omega)|(with_reducible refine Wu.h ?_ ?_)<;>intro h<;>try simp only [h]|((fail_if_success with_reducible refine Wz.h ?_);first|simp (disch:=omega) only [↓LD,LA,loadA_rf,seval]|((with_reducible refine And.intro ?_ ?_);omega)|simp only [D.int,D.bool]))
  all_goals exact end1 rfl rfl (by kernel_rfl) .f (hQ _ _ (by simp only [cancelP,ne_eq, *,not_false_eq_true,not_true_eq_false,↓reduceIte,or_true,true_or,or_false,false_or,or_self,Bool.false_eq_true,Bool.true_eq_false,and_true,true_and,and_false,false_and]<;>rfl) (by simp only [cancelP,ne_eq, *,not_false_eq_true,not_true_eq_false,↓reduceIte,or_true,true_or,or_false,false_or,or_self,Bool.false_eq_true,Bool.true_eq_false,and_true,true_and,and_false,false_and]<;>rfl))
def termP (p : Pn) : Int × Pn:=if openP p.s ≠ 0 then (openP p.s,p) else writeP p ⟨0,0,0,12,0,0,[],[],[]⟩
theorem c_pen_Terminate (p : Pn) (ho : Ok12 p.s) (hl : p.out.length ≤ 1000000) : Con Tryd.prog 42 [.pt 0 0] [pnB p] fun r H'=>r = D.int (termP p).1 ∧ H' = [pnB (termP p).2]:=by
  obtain ⟨s,ver,now,out⟩:=p
  suffices hh : ∀ Q : D → List Row → Prop,(∀ r H',r = D.int (termP ⟨s,ver,now,out⟩).1 → H' = [pnB (termP ⟨s,ver,now,out⟩).2] → Q r H') → Con Tryd.prog 42 [.pt 0 0] [pnB ⟨s,ver,now,out⟩] Q from hh _ fun _ _ h1 h2=>⟨h1,h2⟩
  intro Q hQ
  dsimp only at ho hl
  haveI : Kn (Ok12 s):=⟨ho⟩
  haveI : Kn (Wk12 s):=⟨ho.wk⟩
  haveI : Kn (out.length ≤ 1000000):=⟨hl⟩
  refine Con.walk good fn_pen_Terminate (by simp) ?_
  unfold s_pen_Terminate
  simp only [argsE,pnB,pnD]
  repeat' (first|(with_reducible first|refine Wx.h ?_|refine We.h fun K hK=>?_|refine Wd.h fun K M hK hM=>?_|(refine hK _ _ _ _ ?_;clear hK K;try clear hM M)|(refine hM ?_;clear hM M;try clear hK K)|refine Wb.h fun K hK=>?_|(refine hK _ ?_;clear hK K)|(refine wT ?_ ?_;· assumption)|(refine wF ?_ ?_;· assumption))|((with_reducible refine kQ ?_ ?_);kernel_rfl)|((with_reducible refine k1 ?_ ?_);rfl)|((with_reducible refine k0 ?_ ?_);rfl)|((with_reducible apply kB)<;>first|rfl|intro h)|((with_reducible refine kM ?_ ?_);rfl)|(with_reducible refine Wq.h ?_ ?_)<;>intro h<;>try (exfalso;omega)|(with_reducible refine Wu.h ?_ ?_)<;>intro h<;>try simp only [h]|((fail_if_success with_reducible refine Wz.h ?_);first|simp (disch:=omega) only [↓LD,LA,loadA_rf,seval]|((with_reducible refine And.intro ?_ ?_);omega)|simp only [D.int,D.bool]))
  all_goals exact end1 rfl rfl (by kernel_rfl) .f (hQ _ _ (by simp only [termP,ne_eq, *,not_false_eq_true,not_true_eq_false,↓reduceIte,or_true,true_or,or_false,false_or,or_self,Bool.false_eq_true,Bool.true_eq_false,and_true,true_and,and_false,false_and]<;>rfl) (by simp only [termP,ne_eq, *,not_false_eq_true,not_true_eq_false,↓reduceIte,or_true,true_or,or_false,false_or,or_self,Bool.false_eq_true,Bool.true_eq_false,and_true,true_and,and_false,false_and]<;>rfl))
end Go.Proofs.YtgbbpelfpagdoaaDoor.Mir
namespace Go.Proofs.YtgbbpelfpagdoaaDoor.Mir
open Go Go.RowKit
set_option maxHeartbeats 4000000
def newE (l : List Ev) (ver now : Int) : Int :=
  if (foldR s0 l).1 ≠ 0 then 1 else if (!verB ver) = true then 1 else if now < 0 then 1 else if 1099511627776 < now then 1 else if ver < (foldR s0 l).2.ver then 4 else 0
structure PnOk (b : S12) (p : Pn) : Prop where
  base : Ok12 b
  ok : Ok12 p.s
  out : foldR b p.out = (0,p.s)
  fit : ∀ e ∈ p.out,FitV e
theorem foldR_id : ∀ {l : List Ev} {s : S12},(foldR s l).1 = 0 → (foldR s l).2.id = s.id + l.length
  | [],s,_=>by simp [foldR]
  | e :: l,s,h=>by
    rw [foldR] at h ⊢
    by_cases a : (applyR s e).1 = 0
    · rw [if_pos a] at h ⊢
      have h1:=foldR_id h
      obtain ⟨_,a2,_,_,_,_,_,a8⟩:=applyR_ok a
      rw [h1,a8]
      simp only [List.length_cons]
      omega
    · rw [if_neg a] at h;exact absurd h a
theorem PnOk.len {b : S12} {p : Pn} (h : PnOk b p) : p.out.length ≤ 200:=by
  have h1:=foldR_id (l:=p.out) (s:=b) (by rw [h.out])
  rw [h.out] at h1
  have h2:=h.ok.id
  have h3:=h.base.id
  dsimp only at h1
  omega
theorem fold_snoc {b s t : S12} {l : List Ev} {e : Ev} (h : foldR b l = (0,s)) (ha : (applyR s e).1 = 0) (ht : (applyR s e).2 = t) : foldR b (l ++ [e]) = (0,t):=by
  rw [foldR_app (by rw [h]),h]
  dsimp only
  rw [foldR,if_pos ha,ht,foldR]
theorem PnOk.snoc {b s t : S12} {ver now : Int} {l : List Ev} {e : Ev} (h : PnOk b ⟨s,ver,now,l⟩) (he : FitV e) (ha : (applyR s e).1 = 0) (ht : (applyR s e).2 = t) : PnOk b ⟨t,ver,now,l ++ [e]⟩ :=
  ⟨h.base,by have:=ok12_apply h.ok he.2.2.2 ha;rw [ht] at this;exact this,fold_snoc h.out ha ht,fun x hx=>by
    rcases List.mem_append.1 hx with hx|hx
    · exact h.fit x hx
    · obtain rfl:=List.mem_singleton.1 hx;exact he⟩
theorem fitv0 (p : Pn) (k : Int) : FitV (nextP p (ev0 k)):=⟨by simp [nextP,ev0],by simp [nextP,ev0],⟨by simp [nextP,ev0],by simp [nextP,ev0]⟩⟩
theorem writeP_is (p : Pn) (e : Ev) : ((writeP p e).1 ≠ 0 ∧ (writeP p e).2 = p) ∨
    ((writeP p e).1 = 0 ∧ p.s.id < 200 ∧ (applyR p.s (nextP p e)).1 = 0 ∧ endingL (applyR p.s (nextP p e)).2 = 0 ∧ (writeP p e).2 = { p with s:=(applyR p.s (nextP p e)).2,out:=p.out ++ [nextP p e] }) ∨
    ((writeP p e).1 = 0 ∧ p.s.id < 200 ∧ (applyR p.s (nextP p e)).1 = 0 ∧ endingL (applyR p.s (nextP p e)).2 ≠ 0 ∧ ∃ f,f = nextP { p with s:=(applyR p.s (nextP p e)).2 } (ev0 (endingL (applyR p.s (nextP p e)).2)) ∧ (applyR (applyR p.s (nextP p e)).2 f).1 = 0 ∧
      (writeP p e).2 = { p with s:=(applyR (applyR p.s (nextP p e)).2 f).2,out:=p.out ++ [nextP p e,f] }):=by
  unfold writeP
  by_cases a1 : 200 < p.s.id + 1
  · rw [if_pos a1]
    refine .inl ?_
    split
    · exact ⟨by assumption,rfl⟩
    · exact ⟨by simp,rfl⟩
  rw [if_neg a1]
  by_cases a2 : (applyR p.s (nextP p e)).1 ≠ 0
  · rw [if_pos a2];exact .inl ⟨a2,rfl⟩
  rw [if_neg a2]
  have a3:=Decidable.not_not.1 a2
  unfold endP
  by_cases a4 : endingL (applyR p.s (nextP p e)).2 ≠ 0
  · rw [if_pos a4]
    by_cases a5 : 200 < (applyR p.s (nextP p e)).2.id + 1
    · rw [if_pos a5];exact .inl ⟨by simp,rfl⟩
    rw [if_neg a5]
    by_cases a6 : (applyR (applyR p.s (nextP p e)).2 (nextP { p with s:=(applyR p.s (nextP p e)).2 } (ev0 (endingL (applyR p.s (nextP p e)).2)))).1 ≠ 0
    · rw [if_pos a6];exact .inl ⟨a6,rfl⟩
    rw [if_neg a6]
    exact .inr (.inr ⟨rfl,by omega,a3,a4,_,rfl,Decidable.not_not.1 a6,rfl⟩)
  · rw [if_neg a4]
    exact .inr (.inl ⟨rfl,by omega,a3,Decidable.not_not.1 a4,rfl⟩)
theorem writeP_ok {b : S12} {p : Pn} {e : Ev} (h : PnOk b p) (he : FitV e) : PnOk b (writeP p e).2:=by
  obtain ⟨s,ver,now,out⟩:=p
  have hn : FitV (nextP ⟨s,ver,now,out⟩ e):=he
  rcases writeP_is ⟨s,ver,now,out⟩ e with ⟨_,h2⟩|⟨_,_,h2,_,h3⟩|⟨_,_,h2,_,f,hf,h3,h4⟩
  · rw [h2];exact h
  · rw [h3];exact h.snoc hn h2 rfl
  · rw [h4]
    have h1:=(h.snoc hn h2 rfl).snoc (by rw [hf];exact fitv0 _ _) h3 rfl
    rw [List.append_assoc] at h1
    exact h1
theorem fitv_mk {a b c ty node n : Int} {nm dt : Bs} {df : List Nd} (h1 : nm.length ≤ 1000000) (h2 : dt.length ≤ 1000000) (h3 : Fit df) : FitV ⟨a,b,c,ty,node,n,nm,dt,df⟩:=⟨h2,h1,h3⟩
theorem fit_nil : Fit []:=⟨by simp,by simp⟩
theorem startP_ok {b : S12} {p : Pn} {ds : List Nd} (h : PnOk b p) (hd : Fit ds) : PnOk b (startP p ds).2:=by
  unfold startP
  split
  · exact h
  · split
    · exact h
    · exact writeP_ok h (fitv_mk (by simp) (by simp) hd)
theorem beginP_ok {b : S12} {p : Pn} (h : PnOk b p) : PnOk b (beginP p).2:=by
  unfold beginP
  split
  · exact h
  · split
    · exact h
    · split<;>exact writeP_ok h (fitv_mk (by simp) (by simp) fit_nil)
theorem finishP_ok {b : S12} {p : Pn} {i t : Int} {ok : Bool} {d : Bs} (h : PnOk b p) (hd : d.length ≤ 1000000) : PnOk b (finishP p i t ok d).2:=by
  unfold finishP
  repeat' split
  all_goals first|exact h|exact writeP_ok h (fitv_mk (by simp) hd fit_nil)|exact writeP_ok h (fitv_mk (by simp) (by simp) fit_nil)
theorem armP_ok {b : S12} {p : Pn} {nm : Bs} {t : Int} (h : PnOk b p) (hn : nm.length ≤ 1000000) : PnOk b (armP p nm t).2:=by
  unfold armP
  repeat' split
  all_goals first|exact h|exact writeP_ok h (fitv_mk hn (by simp) fit_nil)
theorem signalP_ok {b : S12} {p : Pn} {nm d : Bs} (h : PnOk b p) (hn : nm.length ≤ 1000000) (hd : d.length ≤ 1000000) : PnOk b (signalP p nm d).2:=by
  unfold signalP
  repeat' split
  all_goals first|exact h|exact writeP_ok h (fitv_mk hn hd fit_nil)
theorem cancelP_ok {b : S12} {p : Pn} (h : PnOk b p) : PnOk b (cancelP p).2:=by
  unfold cancelP
  split
  · exact h
  · exact writeP_ok h (fitv_mk (by simp) (by simp) fit_nil)
theorem termP_ok {b : S12} {p : Pn} (h : PnOk b p) : PnOk b (termP p).2:=by
  unfold termP
  split
  · exact h
  · exact writeP_ok h (fitv_mk (by simp) (by simp) fit_nil)
end Go.Proofs.YtgbbpelfpagdoaaDoor.Mir
namespace Go.Proofs.YtgbbpelfpagdoaaDoor.Mir
open Go Go.RowKit
set_option maxHeartbeats 4000000
theorem turnR_defs {s : S12} {e : Ev} (h : e.ty ≠ 1) : (turnR s e).2.defs = s.defs:=by
  unfold turnR nodeR timerR armL fireL signalL cancelL
  rw [if_neg h]
  repeat' split
  all_goals rfl
theorem turnR_tms {s : S12} {e : Ev} (h5 : e.ty ≠ 5) (h6 : e.ty ≠ 6) : (turnR s e).2.tms = s.tms:=by
  unfold turnR nodeR signalL cancelL
  rw [if_neg (show ¬ (e.ty = 5 ∨ e.ty = 6) by omega)]
  repeat' split
  all_goals rfl
theorem applyR_defs {s : S12} {e : Ev} (hi : s.id ≠ 0) (h : (applyR s e).1 = 0) : (applyR s e).2.defs = s.defs:=by
  obtain ⟨_,_,_,_,_,a6,_,a8⟩:=applyR_ok h
  rw [a8]
  exact turnR_defs (fun hh=>hi (a6.2 hh))
theorem writeP_defs {b : S12} {p : Pn} {e : Ev} (hi : p.s.id ≠ 0) (hp : 0 ≤ p.s.id) : (writeP p e).2.s.defs = p.s.defs:=by
  rcases writeP_is p e with ⟨_,h2⟩|⟨_,_,h2,_,h3⟩|⟨_,_,h2,_,f,hf,h3,h4⟩
  · rw [h2]
  · rw [h3];exact applyR_defs hi h2
  · rw [h4]
    have h5:=applyR_defs hi h2
    obtain ⟨_,a2,_,_,_,_,_,a8⟩:=applyR_ok h2
    have h6:=applyR_defs (s:=(applyR p.s (nextP p e)).2) (e:=f) (by rw [a8];dsimp only;omega) h3
    dsimp only
    rw [h6,h5]
theorem writeP_len {b : S12} {p : Pn} {e : Ev} (h : PnOk b p) (he : FitV e) (hi : p.s.id ≠ 0) : (writeP p e).2.s.nodes.length = p.s.nodes.length:=by
  have h1:=(writeP_ok h he).ok.len
  rw [h1,writeP_defs (b:=b) hi h.ok.id.1,h.ok.len]
def unf (l : List Tm) : Nat:=l.countP fun x=>!x.fired
theorem unf_set {l : List Tm} {j : Nat} (hj : j < l.length) (hf : (gt l j).fired = false) : unf (l.set j { gt l j with fired:=true }) < unf l:=by
  have hg:=gt_eq hj
  have hc:=List.countP_set (p:=fun x : Tm=>!x.fired) (l:=l) (i:=j) (a:={ gt l j with fired:=true }) hj
  have hp : (!l[j].fired) = true:=by rw [← hg,hf];rfl
  have hpos : 0 < l.countP fun x=>!x.fired:=List.countP_pos_iff.2 ⟨l[j],List.getElem_mem hj,hp⟩
  unfold unf
  rw [hc]
  simp only [hp,Bool.not_true,if_true]
  simp
  omega
theorem fire_unf {s : S12} {e : Ev} (h6 : e.ty = 6) (h : (turnR s e).1 = 0) : unf (turnR s e).2.tms < unf s.tms:=by
  unfold turnR timerR fireL at h ⊢
  rw [if_neg (by omega),if_neg (by omega),if_pos (.inr h6),if_neg (by omega)] at h ⊢
  by_cases a1 : tmI s.tms e.name < 0
  · rw [if_pos a1] at h;cases h
  rw [if_neg a1] at h ⊢
  by_cases a2 : (gt s.tms (tmI s.tms e.name).toNat).fired = true ∨ e.time < (gt s.tms (tmI s.tms e.name).toNat).due
  · rw [if_pos a2] at h;cases h
  rw [if_neg a2]
  have:=tmI_lt s.tms e.name
  exact unf_set (by omega) (by cases hb : (gt s.tms (tmI s.tms e.name).toNat).fired with|false=>rfl|true=>exact absurd (.inl hb) a2)
theorem writeP_unf {p : Pn} {nm : Bs} (h : (writeP p ⟨0,0,0,6,0,0,nm,[],[]⟩).1 = 0) : unf (writeP p ⟨0,0,0,6,0,0,nm,[],[]⟩).2.s.tms < unf p.s.tms:=by
  rcases writeP_is p ⟨0,0,0,6,0,0,nm,[],[]⟩ with ⟨h1,h2⟩|⟨_,_,h2,_,h3⟩|⟨_,_,h2,_,f,hf,h3,h4⟩
  · exact absurd h h1
  · obtain ⟨_,_,_,_,_,_,a7,a8⟩:=applyR_ok h2
    rw [h3,a8]
    exact fire_unf rfl a7
  · obtain ⟨_,_,_,_,_,_,a7,a8⟩:=applyR_ok h2
    obtain ⟨_,_,_,_,_,_,b7,b8⟩:=applyR_ok h3
    have hk:=endingL_in (applyR p.s (nextP p ⟨0,0,0,6,0,0,nm,[],[]⟩)).2
    have ht : f.ty = endingL (applyR p.s (nextP p ⟨0,0,0,6,0,0,nm,[],[]⟩)).2:=by rw [hf];rfl
    rw [h4,b8]
    dsimp only
    rw [turnR_tms (by omega) (by omega),a8]
    exact fire_unf rfl a7
def lateN (now : Int) : Nat → Nat → Pn → Int → Int × Pn × Bool
  | 0,_,p,n=>(n,p,false)
  | k + 1,i,p,n =>
    if p.s.closed ≠ 0 then (n,p,false)
    else if (gt p.s.nodes i).st ≠ 1 then lateN now k (i + 1) p n
    else if now < (gt p.s.nodes i).due then lateN now k (i + 1) p n
    else if (writeP p ⟨0,0,0,4,i,(gt p.s.nodes i).tr,[],[],[]⟩).1 ≠ 0 then (n,(writeP p ⟨0,0,0,4,i,(gt p.s.nodes i).tr,[],[],[]⟩).2,true)
    else lateN now k (i + 1) (writeP p ⟨0,0,0,4,i,(gt p.s.nodes i).tr,[],[],[]⟩).2 (n + 1)
def strLt (a b : Bs) : Bool:=Op.bytesLess (BB a).toList (BB b).toList
def befT (x y : Tm) : Bool:=decide (x.due < y.due) || (decide (x.due = y.due) && strLt x.name y.name)
def pickF (now : Int) (tms : List Tm) : Nat → Int → List Tm → Int
  | _,k,[]=>k
  | i,k,x :: l =>
    if x.fired = true then pickF now tms (i + 1) k l else if now < x.due then pickF now tms (i + 1) k l
    else if k < 0 ∨ befT x (gt tms k.toNat) = true then pickF now tms (i + 1) i l else pickF now tms (i + 1) k l
def lateT (now : Int) : Nat → Pn → Int → Int × Pn
  | 0,p,n=>(n,p)
  | f + 1,p,n =>
    if p.s.closed ≠ 0 then (n,p) else if pickF now p.s.tms 0 (-1) p.s.tms < 0 then (n,p)
    else if (writeP p ⟨0,0,0,6,0,0,(gt p.s.tms (pickF now p.s.tms 0 (-1) p.s.tms).toNat).name,[],[]⟩).1 ≠ 0 then (n,(writeP p ⟨0,0,0,6,0,0,(gt p.s.tms (pickF now p.s.tms 0 (-1) p.s.tms).toNat).name,[],[]⟩).2)
    else lateT now f (writeP p ⟨0,0,0,6,0,0,(gt p.s.tms (pickF now p.s.tms 0 (-1) p.s.tms).toNat).name,[],[]⟩).2 (n + 1)
def lateP (p : Pn) : Int × Pn :=
  if (lateN (max p.now p.s.time) p.s.nodes.length 0 p 0).2.2 = true then ((lateN (max p.now p.s.time) p.s.nodes.length 0 p 0).1,(lateN (max p.now p.s.time) p.s.nodes.length 0 p 0).2.1)
  else lateT (max p.now p.s.time) (unf (lateN (max p.now p.s.time) p.s.nodes.length 0 p 0).2.1.s.tms + 1) (lateN (max p.now p.s.time) p.s.nodes.length 0 p 0).2.1 (lateN (max p.now p.s.time) p.s.nodes.length 0 p 0).1
theorem pickF_in (now : Int) (tms : List Tm) : ∀ (i : Nat) (k : Int) (l : List Tm),k < i + l.length → pickF now tms i k l < i + l.length
  | _,_,[],h=>h
  | i,k,x :: l,h=>by
    rw [pickF]
    simp only [List.length_cons] at h ⊢
    split
    · have:=pickF_in now tms (i + 1) k l (by omega);omega
    · split
      · have:=pickF_in now tms (i + 1) k l (by omega);omega
      · split
        · have:=pickF_in now tms (i + 1) i l (by omega);omega
        · have:=pickF_in now tms (i + 1) k l (by omega);omega
theorem lateN_ok {b : S12} {now : Int} : ∀ {k i : Nat} {p : Pn} {n : Int},PnOk b p → PnOk b (lateN now k i p n).2.1
  | 0,_,_,_,h=>h
  | k + 1,i,p,n,h=>by
    rw [lateN]
    have hw:=writeP_ok (e:=⟨0,0,0,4,i,(gt p.s.nodes i).tr,[],[],[]⟩) h (fitv_mk (by simp) (by simp) fit_nil)
    split
    · exact h
    · split
      · exact lateN_ok h
      · split
        · exact lateN_ok h
        · split
          · exact hw
          · exact lateN_ok hw
theorem lateT_ok {b : S12} {now : Int} : ∀ {f : Nat} {p : Pn} {n : Int},PnOk b p → PnOk b (lateT now f p n).2
  | 0,_,_,h=>h
  | f + 1,p,n,h=>by
    rw [lateT]
    split
    · exact h
    · split
      · exact h
      · have hk:=pickF_in now p.s.tms 0 (-1) p.s.tms (by omega)
        have hn:=h.ok.tname _ (gt_mem (l:=p.s.tms) (k:=(pickF now p.s.tms 0 (-1) p.s.tms).toNat) (by omega))
        have hw:=writeP_ok (e:=⟨0,0,0,6,0,0,(gt p.s.tms (pickF now p.s.tms 0 (-1) p.s.tms).toNat).name,[],[]⟩) h (fitv_mk (by omega) (by simp) fit_nil)
        split
        · exact hw
        · exact lateT_ok hw
theorem lateP_ok {b : S12} {p : Pn} (h : PnOk b p) : PnOk b (lateP p).2:=by
  unfold lateP
  split
  · exact lateN_ok h
  · exact lateT_ok (lateN_ok h)
end Go.Proofs.YtgbbpelfpagdoaaDoor.Mir
namespace Go.Proofs.YtgbbpelfpagdoaaDoor.Mir
open Go Go.RowKit
set_option maxHeartbeats 4000000
theorem HS.cutK {P : Program} {n : Nat} {c : SCode} {s : St} {Q : Out → St → Prop} (i : Nat) {α : Type} (st : α → St) (p : α → Prop)
    (h1 : ∀ K : Out → St → Prop,(∀ y,p y → ∀ s',View P n s' (st y) → K (.exit i) s') → (∀ s',Q .ret s' → K .ret s') → HS P n c s K) (h2 : ∀ y,p y → ∀ s',View P n s' (st y) → Q (.exit i) s') : HS P n c s Q:=h1 Q h2 fun _ h=>h
theorem lateT_fuel {now : Int} : ∀ {f g : Nat} {p : Pn} {n : Int},unf p.s.tms < f → unf p.s.tms < g → lateT now f p n = lateT now g p n
  | 0,_,_,_,h,_=>absurd h (by omega)
  | _,0,_,_,_,h=>absurd h (by omega)
  | f + 1,g + 1,p,n,hf,hg=>by
    rw [lateT,lateT]
    by_cases a1 : p.s.closed ≠ 0
    · rw [if_pos a1,if_pos a1]
    rw [if_neg a1,if_neg a1]
    by_cases a2 : pickF now p.s.tms 0 (-1) p.s.tms < 0
    · rw [if_pos a2,if_pos a2]
    rw [if_neg a2,if_neg a2]
    by_cases a3 : (writeP p ⟨0,0,0,6,0,0,(gt p.s.tms (pickF now p.s.tms 0 (-1) p.s.tms).toNat).name,[],[]⟩).1 ≠ 0
    · rw [if_pos a3,if_pos a3]
    rw [if_neg a3,if_neg a3]
    have:=writeP_unf (Decidable.not_not.1 a3)
    exact lateT_fuel (by omega) (by omega)
set_option maxRecDepth 100000 in
theorem c_pen_Late (b : S12) (p : Pn) (h : PnOk b p) : Con Tryd.prog 40 [.pt 0 0] [pnB p] fun r H'=>r = D.int (lateP p).1 ∧ H' = [pnB (lateP p).2]:=by
  suffices hh : ∀ Q : D → List Row → Prop,(∀ r H',r = D.int (lateP p).1 → H' = [pnB (lateP p).2] → Q r H') → Con Tryd.prog 40 [.pt 0 0] [pnB p] Q from hh _ fun _ _ h1 h2=>⟨h1,h2⟩
  intro Q hQ
  unfold lateP at hQ
  refine Con.walk good fn_pen_Late (by simp) ?_
  unfold s_pen_Late
  simp only [argsE,pnB,pnD]
  have hnl:=h.ok.wk.fit.fit.nodes
  generalize hN : max p.now p.s.time = N at hQ
  repeat' (first|(with_reducible first|refine Wx.h ?_|refine We.h fun K hK=>?_|refine Wd.h fun K M hK hM=>?_|(refine hK _ _ _ _ ?_;clear hK K;try clear hM M)|(refine hM ?_;clear hM M;try clear hK K)|refine Wb.h fun K hK=>?_|(refine hK _ ?_;clear hK K)|(refine wT ?_ ?_;· assumption)|(refine wF ?_ ?_;· assumption))|((with_reducible refine kQ ?_ ?_);kernel_rfl)|((with_reducible refine k1 ?_ ?_);rfl)|((with_reducible refine k0 ?_ ?_);rfl)|((with_reducible apply kB)<;>first|rfl|intro h)|((with_reducible refine kM ?_ ?_);rfl)|(with_reducible refine Wq.h ?_ ?_)<;>intro h<;>try (exfalso;omega)|(with_reducible refine Wu.h ?_ ?_)<;>intro h<;>try simp only [h]|((fail_if_success with_reducible refine Wz.h ?_);first|simp (disch:=omega) only [↓LD,LA,loadA_rf,seval,hN]|((with_reducible refine And.intro ?_ ?_);omega)|simp only [D.int,D.bool]))
  refine HS.cutK 0 (fun x : Pn × Int=>⟨frm 163 [(0,.pt 0 0),(3,D.int x.2),(4,D.int N)],[pnB x.1],[]⟩) (fun x=>PnOk b x.1 ∧ 0 ≤ x.2 ∧ x.2 ≤ 1000000 ∧ lateN N p.s.nodes.length 0 p 0 = (x.2,x.1,false)) ?_ ?_
  · intro K hx hr
    refine HS.loopG [0,3,4,5] (fun x : Nat × Pn × Int=>⟨frm 163 [(0,.pt 0 0),(3,D.int x.2.2),(4,D.int N),(5,D.int x.1)],[pnB x.2.1],[]⟩)
      (fun x=>x.1 ≤ p.s.nodes.length ∧ x.2.1.s.nodes.length = p.s.nodes.length ∧ PnOk b x.2.1 ∧ 0 ≤ x.2.2 ∧ x.2.2 ≤ x.1 ∧ lateN N p.s.nodes.length 0 p 0 = lateN N (p.s.nodes.length - x.1) x.1 x.2.1 x.2.2) (fun x=>p.s.nodes.length - x.1) (0,p,0) (by kernel_rfl) ⟨Nat.zero_le _,rfl,h,by simp,by simp,rfl⟩ ?_
    rintro ⟨i,⟨s,ver,now,out⟩,n⟩ ⟨hi,hl,ho,hn0,hn1,hF⟩
    dsimp only at hi hl ho hn0 hn1 hF
    by_cases hil : i < p.s.nodes.length
    · rw [show p.s.nodes.length - i = (p.s.nodes.length - (i + 1)) + 1 by omega,lateN] at hF
      dsimp only at hF
      have hok:=ho.ok
      have hid : s.id ≠ 0:=fun hh=>by have:=hok.wk.zero.2 hh;dsimp only at this;omega
      have hlen:=ho.len
      haveI : Kn (Ok12 s):=⟨hok⟩
      haveI : Kn (out.length ≤ 1000000):=⟨by dsimp only at hlen;omega⟩
      have hw:=writeP_ok (e:=⟨0,0,0,4,i,(gt s.nodes i).tr,[],[],[]⟩) ho (fitv_mk (by simp) (by simp) fit_nil)
      have hwl:=writeP_len (e:=⟨0,0,0,4,i,(gt s.nodes i).tr,[],[],[]⟩) ho (fitv_mk (by simp) (by simp) fit_nil) hid
      repeat' (first|(with_reducible first|refine Wx.h ?_|refine Wb.h fun K hK=>?_|(refine hK _ ?_;clear hK K)|(refine wT ?_ ?_;· assumption)|(refine wF ?_ ?_;· assumption))|((with_reducible refine kQ ?_ ?_);kernel_rfl)|((with_reducible refine k1 ?_ ?_);rfl)|((with_reducible refine k0 ?_ ?_);rfl)|((with_reducible apply kB)<;>first|rfl|intro h)|((with_reducible refine kM ?_ ?_);rfl)|(with_reducible refine Wq.h ?_ ?_)<;>intro h<;>try (exfalso;omega)|(with_reducible refine Wu.h ?_ ?_)<;>intro h<;>try simp only [h]|((fail_if_success with_reducible refine Wz.h ?_);first|simp (disch:=omega) only [↓LD,LA,loadA_rf,seval,LSt,pnB,pnD,load_fNn,len_fNn,Nn.cs,-loadA_rf,List.map_cons,List.map_nil]|((with_reducible refine And.intro ?_ ?_);omega)|simp only [D.int,D.bool]))
      · rw [if_neg (fun hh=>hh (show s.closed = 0 by assumption)),if_neg (fun hh=>hh (by assumption)),if_pos (by assumption)] at hF
        exact Next.mk (i + 1,⟨s,ver,now,out⟩,n) (by kernel_rfl) ⟨by omega,hl,ho,hn0,by dsimp only;omega,hF⟩ (by dsimp only;omega)
      · have hz : (writeP ⟨s,ver,now,out⟩ ⟨0,0,0,4,i,(gt s.nodes i).tr,[],[],[]⟩).1 = 0:=by assumption
        rw [if_neg (fun hh=>hh (show s.closed = 0 by assumption)),if_neg (fun hh=>hh (by assumption)),if_neg (by assumption),if_neg (fun hh=>hh hz)] at hF
        exact Next.mk (i + 1,(writeP ⟨s,ver,now,out⟩ ⟨0,0,0,4,i,(gt s.nodes i).tr,[],[],[]⟩).2,n + 1) (by kernel_rfl) ⟨by omega,hwl.trans hl,hw,by dsimp only;omega,by dsimp only;omega,hF⟩ (by dsimp only;omega)
      · have hz : (writeP ⟨s,ver,now,out⟩ ⟨0,0,0,4,i,(gt s.nodes i).tr,[],[],[]⟩).1 ≠ 0:=by assumption
        rw [if_neg (fun hh=>hh (show s.closed = 0 by assumption)),if_neg (fun hh=>hh (by assumption)),if_neg (by assumption),if_pos hz] at hF
        rw [hF,if_pos rfl] at hQ
        refine hr _ ?_
        repeat' (first|(with_reducible first|refine Wx.h ?_|refine Wb.h fun K hK=>?_|(refine hK _ ?_;clear hK K)|(refine wT ?_ ?_;· assumption)|(refine wF ?_ ?_;· assumption))|((with_reducible refine kQ ?_ ?_);kernel_rfl)|((with_reducible refine k1 ?_ ?_);rfl)|((with_reducible refine k0 ?_ ?_);rfl)|((with_reducible apply kB)<;>first|rfl|intro h)|((with_reducible refine kM ?_ ?_);rfl)|(with_reducible refine Wq.h ?_ ?_)<;>intro h<;>try (exfalso;omega)|(with_reducible refine Wu.h ?_ ?_)<;>intro h<;>try simp only [h]|((fail_if_success with_reducible refine Wz.h ?_);first|simp (disch:=omega) only [↓LD,LA,loadA_rf,seval]|((with_reducible refine And.intro ?_ ?_);omega)|simp only [D.int,D.bool]))
        exact end1 rfl rfl (by kernel_rfl) .f (hQ _ _ rfl rfl)
      · rw [if_neg (fun hh=>hh (show s.closed = 0 by assumption)),if_pos (by assumption)] at hF
        exact Next.mk (i + 1,⟨s,ver,now,out⟩,n) (by kernel_rfl) ⟨by omega,hl,ho,hn0,by dsimp only;omega,hF⟩ (by dsimp only;omega)
      · rw [if_pos (show s.closed ≠ 0 by assumption)] at hF
        exact hx (⟨s,ver,now,out⟩,n) ⟨ho,hn0,by dsimp only;omega,hF⟩ _ (View.sweep (keep:=[0,3,4]) (by kernel_rfl))
    · rw [show p.s.nodes.length - i = 0 by omega,lateN] at hF
      repeat' (first|(with_reducible first|refine Wx.h ?_|refine Wb.h fun K hK=>?_|(refine hK _ ?_;clear hK K)|(refine wT ?_ ?_;· assumption)|(refine wF ?_ ?_;· assumption))|((with_reducible refine kQ ?_ ?_);kernel_rfl)|((with_reducible refine k1 ?_ ?_);rfl)|((with_reducible refine k0 ?_ ?_);rfl)|((with_reducible apply kB)<;>first|rfl|intro h)|((with_reducible refine kM ?_ ?_);rfl)|(with_reducible refine Wq.h ?_ ?_)<;>intro h<;>try (exfalso;omega)|(with_reducible refine Wu.h ?_ ?_)<;>intro h<;>try simp only [h]|((fail_if_success with_reducible refine Wz.h ?_);first|simp (disch:=omega) only [↓LD,LA,loadA_rf,seval,LSt,pnB,pnD]|((with_reducible refine And.intro ?_ ?_);omega)|simp only [D.int,D.bool]))
      exact hx (⟨s,ver,now,out⟩,n) ⟨ho,hn0,by dsimp only;omega,hF⟩ _ (View.sweep (keep:=[0,3,4]) (by kernel_rfl))
  · rintro ⟨q,n⟩ ⟨ho,hn0,hn1,hF⟩ s' hv
    refine blockQ_hit ?_
    refine thenQ_n ?_
    refine HS.view hv ?_
    clear hv
    dsimp only at ho hn0 hn1 hF ⊢
    rw [hF,if_neg (by simp)] at hQ
    dsimp only at hQ
    clear hF
    generalize hLL : lateT N (unf q.s.tms + 1) q n = LL at hQ
    repeat' (first|(with_reducible first|refine Wx.h ?_|refine Wb.h fun K hK=>?_|(refine hK _ ?_;clear hK K)|(refine wT ?_ ?_;· assumption)|(refine wF ?_ ?_;· assumption))|((with_reducible refine kQ ?_ ?_);kernel_rfl)|((with_reducible refine k1 ?_ ?_);rfl)|((with_reducible refine k0 ?_ ?_);rfl)|((with_reducible apply kB)<;>first|rfl|intro h)|((with_reducible refine kM ?_ ?_);rfl)|(with_reducible refine Wq.h ?_ ?_)<;>intro h<;>try (exfalso;omega)|(with_reducible refine Wu.h ?_ ?_)<;>intro h<;>try simp only [h]|((fail_if_success with_reducible refine Wz.h ?_);first|simp (disch:=omega) only [↓LD,LA,loadA_rf,seval]|((with_reducible refine And.intro ?_ ?_);omega)|simp only [D.int,D.bool]))
    have hu0:=ho.ok.tms
    have hu1 : ∀ l : List Tm,unf l ≤ l.length:=fun l=>List.countP_le_length
    have hu2:=hu1 q.s.tms
    refine HS.loopG [0,3,4] (fun x : Pn × Int=>⟨frm 163 [(0,.pt 0 0),(3,D.int x.2),(4,D.int N)],[pnB x.1],[]⟩)
      (fun x=>PnOk b x.1 ∧ 0 ≤ x.2 ∧ x.2 + unf x.1.s.tms ≤ 2000000 ∧ LL = lateT N (unf x.1.s.tms + 1) x.1 x.2) (fun x=>unf x.1.s.tms) (q,n) (by kernel_rfl) ⟨ho,hn0,by dsimp only;omega,hLL.symm⟩ ?_
    clear ho hn0 hn1 hu0 hu2 hLL
    rintro ⟨⟨s,ver,now,out⟩,m⟩ ⟨ho,hn0,hn1,hF⟩
    dsimp only at ho hn0 hn1 hF
    have hok:=ho.ok
    dsimp only at hok
    have hlen:=ho.len
    haveI : Kn (Ok12 s):=⟨hok⟩
    haveI : Kn (out.length ≤ 1000000):=⟨by dsimp only at hlen;omega⟩
    have htl:=hok.tms
    rw [lateT] at hF
    repeat' (first|(with_reducible first|refine Wx.h ?_|refine Wb.h fun K hK=>?_|(refine hK _ ?_;clear hK K)|(refine wT ?_ ?_;· assumption)|(refine wF ?_ ?_;· assumption))|((with_reducible refine kQ ?_ ?_);kernel_rfl)|((with_reducible refine k1 ?_ ?_);rfl)|((with_reducible refine k0 ?_ ?_);rfl)|((with_reducible apply kB)<;>first|rfl|intro h)|((with_reducible refine kM ?_ ?_);rfl)|(with_reducible refine Wq.h ?_ ?_)<;>intro h<;>try (exfalso;omega)|(with_reducible refine Wu.h ?_ ?_)<;>intro h<;>try simp only [h]|((fail_if_success with_reducible refine Wz.h ?_);first|simp (disch:=omega) only [↓LD,LA,loadA_rf,seval,LSt,pnB,pnD]|((with_reducible refine And.intro ?_ ?_);omega)|simp only [D.int,D.bool]))
    rotate_left
    · rw [if_pos (show s.closed ≠ 0 by assumption)] at hF
      rw [hF] at hQ
      exact end1 rfl rfl (by kernel_rfl) .f (hQ _ _ rfl rfl)
    have hcl : s.closed = 0:=by assumption
    rw [if_neg (fun hh=>hh hcl)] at hF
    refine HS.loopG [0,3,4,7,8] (fun x : Nat × Int=>⟨frm 163 [(0,.pt 0 0),(3,D.int m),(4,D.int N),(7,D.int x.2),(8,D.int x.1)],[pnB ⟨s,ver,now,out⟩],[]⟩)
      (fun x=>x.1 ≤ s.tms.length ∧ -1 ≤ x.2 ∧ x.2 < x.1 ∧ pickF N s.tms 0 (-1) s.tms = pickF N s.tms x.1 x.2 (s.tms.drop x.1)) (fun x=>s.tms.length - x.1) (0,-1) (by kernel_rfl) ⟨Nat.zero_le _,by simp,by simp,rfl⟩ ?_
    rintro ⟨j,k⟩ ⟨hj,hk0,hk1,hP⟩
    dsimp only at hj hk0 hk1 hP
    by_cases hjl : j < s.tms.length
    · rw [drop_gt hjl,pickF] at hP
      have hbT : befT (gt s.tms j) (gt s.tms k.toNat) = true ↔ (gt s.tms j).due < (gt s.tms k.toNat).due ∨ ((gt s.tms j).due = (gt s.tms k.toNat).due ∧ Op.bytesLess (BB (gt s.tms j).name).toList (BB (gt s.tms k.toNat).name).toList = true):=by simp only [befT,strLt,Bool.or_eq_true,Bool.and_eq_true,decide_eq_true_eq]
      repeat' (first|(with_reducible first|refine Wx.h ?_|refine We.h fun K hK=>?_|refine Wd.h fun K M hK hM=>?_|(refine hK _ _ _ _ ?_;clear hK K;try clear hM M)|(refine hM ?_;clear hM M;try clear hK K)|refine Wb.h fun K hK=>?_|(refine hK _ ?_;clear hK K)|(refine wT ?_ ?_;· assumption)|(refine wF ?_ ?_;· assumption))|((with_reducible refine kQ ?_ ?_);kernel_rfl)|((with_reducible refine k1 ?_ ?_);rfl)|((with_reducible refine k0 ?_ ?_);rfl)|((with_reducible apply kB)<;>first|rfl|intro h)|((with_reducible refine kM ?_ ?_);rfl)|(with_reducible refine Wq.h ?_ ?_)<;>intro h<;>try (exfalso;omega)|(with_reducible refine Wu.h ?_ ?_)<;>intro h<;>try simp only [h]|((fail_if_success with_reducible refine Wz.h ?_);first|simp (disch:=omega) only [↓LD,LA,loadA_rf,seval,LSt,pnB,pnD,load_fTm,len_fTm,at0_fTm,at1_fTm,Tm.cs,-loadA_rf,List.map_cons,List.map_nil]|((with_reducible refine And.intro ?_ ?_);omega)|simp only [D.int,D.bool]))
      all_goals first
        | (rw [if_pos (show (gt s.tms j).fired = true by assumption)] at hP
           exact Next.mk (j + 1,k) (by kernel_rfl) ⟨by dsimp only;omega,hk0,by dsimp only;omega,hP⟩ (by dsimp only;omega))
        | (rw [if_neg (by rw [show (gt s.tms j).fired = false by assumption];simp),if_pos (show N < (gt s.tms j).due by assumption)] at hP
           exact Next.mk (j + 1,k) (by kernel_rfl) ⟨by dsimp only;omega,hk0,by dsimp only;omega,hP⟩ (by dsimp only;omega))
        | (rw [if_neg (by rw [show (gt s.tms j).fired = false by assumption];simp),if_neg (show ¬ N < (gt s.tms j).due by assumption),if_pos (.inl (show k < 0 by assumption))] at hP
           exact Next.mk (j + 1,(j : Int)) (by kernel_rfl) ⟨by dsimp only;omega,by dsimp only;omega,by dsimp only;omega,hP⟩ (by dsimp only;omega))
        | (rw [if_neg (by rw [show (gt s.tms j).fired = false by assumption];simp),if_neg (show ¬ N < (gt s.tms j).due by assumption),if_pos (.inr (hbT.2 (.inl (show (gt s.tms j).due < (gt s.tms k.toNat).due by assumption))))] at hP
           exact Next.mk (j + 1,(j : Int)) (by kernel_rfl) ⟨by dsimp only;omega,by dsimp only;omega,by dsimp only;omega,hP⟩ (by dsimp only;omega))
        | (rw [if_neg (by rw [show (gt s.tms j).fired = false by assumption];simp),if_neg (show ¬ N < (gt s.tms j).due by assumption),if_pos (.inr (hbT.2 (.inr ⟨show (gt s.tms j).due = (gt s.tms k.toNat).due by assumption,show Op.bytesLess (BB (gt s.tms j).name).toList (BB (gt s.tms k.toNat).name).toList = true by assumption⟩)))] at hP
           exact Next.mk (j + 1,(j : Int)) (by kernel_rfl) ⟨by dsimp only;omega,by dsimp only;omega,by dsimp only;omega,hP⟩ (by dsimp only;omega))
        | (rw [if_neg (by rw [show (gt s.tms j).fired = false by assumption];simp),if_neg (show ¬ N < (gt s.tms j).due by assumption),if_neg (fun hh=>hh.elim (show ¬ k < 0 by assumption) (fun hb=>(hbT.1 hb).elim (show ¬ (gt s.tms j).due < (gt s.tms k.toNat).due by assumption) (fun he=>(show ¬ (gt s.tms j).due = (gt s.tms k.toNat).due by assumption) he.1)))] at hP
           exact Next.mk (j + 1,k) (by kernel_rfl) ⟨by dsimp only;omega,hk0,by dsimp only;omega,hP⟩ (by dsimp only;omega))
        | (rw [if_neg (by rw [show (gt s.tms j).fired = false by assumption];simp),if_neg (show ¬ N < (gt s.tms j).due by assumption),if_neg (fun hh=>hh.elim (show ¬ k < 0 by assumption) (fun hb=>(hbT.1 hb).elim (show ¬ (gt s.tms j).due < (gt s.tms k.toNat).due by assumption) (fun he=>(show ¬ Op.bytesLess (BB (gt s.tms j).name).toList (BB (gt s.tms k.toNat).name).toList = true by assumption) he.2)))] at hP
           exact Next.mk (j + 1,k) (by kernel_rfl) ⟨by dsimp only;omega,hk0,by dsimp only;omega,hP⟩ (by dsimp only;omega))
    · rw [List.drop_of_length_le (by omega),pickF] at hP
      rw [hP] at hF
      have hn16 : 0 ≤ k → (gt s.tms k.toNat).name.length ≤ 16:=fun hk=>hok.tname _ (gt_mem (l:=s.tms) (k:=k.toNat) (by omega))
      by_cases hkz : k < 0
      · repeat' (first|(with_reducible first|refine Wx.h ?_|refine We.h fun K hK=>?_|refine Wd.h fun K M hK hM=>?_|(refine hK _ _ _ _ ?_;clear hK K;try clear hM M)|(refine hM ?_;clear hM M;try clear hK K)|refine Wb.h fun K hK=>?_|(refine hK _ ?_;clear hK K)|(refine wT ?_ ?_;· assumption)|(refine wF ?_ ?_;· assumption))|((with_reducible refine kQ ?_ ?_);kernel_rfl)|((with_reducible refine k1 ?_ ?_);rfl)|((with_reducible refine k0 ?_ ?_);rfl)|((with_reducible apply kB)<;>first|rfl|intro h)|((with_reducible refine kM ?_ ?_);rfl)|(with_reducible refine Wq.h ?_ ?_)<;>intro h<;>try (exfalso;omega)|(with_reducible refine Wu.h ?_ ?_)<;>intro h<;>try simp only [h]|((fail_if_success with_reducible refine Wz.h ?_);first|simp (disch:=omega) only [↓LD,LA,loadA_rf,seval,LSt,pnB,pnD,load_fTm,len_fTm,at0_fTm,at1_fTm,Tm.cs,-loadA_rf,List.map_cons,List.map_nil]|((with_reducible refine And.intro ?_ ?_);omega)|simp only [D.int,D.bool]))
        rw [if_pos hkz] at hF
        rw [hF] at hQ
        exact end1 rfl rfl (by kernel_rfl) .f (hQ _ _ rfl rfl)
      rw [if_neg hkz] at hF
      have hn17:=hn16 (by omega)
      haveI : Kn ((gt s.tms k.toNat).name.length ≤ 1000000):=⟨by omega⟩
      have hw:=writeP_ok (e:=⟨0,0,0,6,0,0,(gt s.tms k.toNat).name,[],[]⟩) ho (fitv_mk (by omega) (by simp) fit_nil)
      have hwu:=writeP_unf (p:=⟨s,ver,now,out⟩) (nm:=(gt s.tms k.toNat).name)
      have hu2:=hu1 s.tms
      repeat' (first|(with_reducible first|refine Wx.h ?_|refine We.h fun K hK=>?_|refine Wd.h fun K M hK hM=>?_|(refine hK _ _ _ _ ?_;clear hK K;try clear hM M)|(refine hM ?_;clear hM M;try clear hK K)|refine Wb.h fun K hK=>?_|(refine hK _ ?_;clear hK K)|(refine wT ?_ ?_;· assumption)|(refine wF ?_ ?_;· assumption))|((with_reducible refine kQ ?_ ?_);kernel_rfl)|((with_reducible refine k1 ?_ ?_);rfl)|((with_reducible refine k0 ?_ ?_);rfl)|((with_reducible apply kB)<;>first|rfl|intro h)|((with_reducible refine kM ?_ ?_);rfl)|(with_reducible refine Wq.h ?_ ?_)<;>intro h<;>try (exfalso;omega)|(with_reducible refine Wu.h ?_ ?_)<;>intro h<;>try simp only [h]|((fail_if_success with_reducible refine Wz.h ?_);first|simp (disch:=omega) only [↓LD,LA,loadA_rf,seval,LSt,pnB,pnD,load_fTm,len_fTm,at0_fTm,at1_fTm,Tm.cs,-loadA_rf,List.map_cons,List.map_nil]|((with_reducible refine And.intro ?_ ?_);omega)|simp only [D.int,D.bool]))
      · have hz : (writeP ⟨s,ver,now,out⟩ ⟨0,0,0,6,0,0,(gt s.tms k.toNat).name,[],[]⟩).1 = 0:=by assumption
        have hwu:=hwu hz
        dsimp only at hwu hn1
        rw [if_neg (fun hh=>hh hz)] at hF
        refine Next.mk ((writeP ⟨s,ver,now,out⟩ ⟨0,0,0,6,0,0,(gt s.tms k.toNat).name,[],[]⟩).2,m + 1) (by kernel_rfl) ⟨hw,by dsimp only;omega,by dsimp only;omega,?_⟩ (by dsimp only;omega)
        dsimp only
        rw [hF]
        exact lateT_fuel hwu (Nat.lt_succ_self _)
      · have hz : (writeP ⟨s,ver,now,out⟩ ⟨0,0,0,6,0,0,(gt s.tms k.toNat).name,[],[]⟩).1 ≠ 0:=by assumption
        rw [if_pos hz] at hF
        rw [hF] at hQ
        exact end1 rfl rfl (by kernel_rfl) .f (hQ _ _ rfl rfl)
end Go.Proofs.YtgbbpelfpagdoaaDoor.Mir
namespace Go.Proofs.YtgbbpelfpagdoaaDoor.Mir
open Go Go.RowKit
instance {s : S12} {ver now : Int} {out : List Ev} {H : List Row} {K : D → List Row → Prop} {ds : List Nd} [ho : Kn (Ok12 s)] [hl : Kn (out.length ≤ 1000000)] [k1 : Kn (Fit ds)] :
    Wa (callW Tryd.prog (.fn 34 []) [.pt 0 0,.f (fG ds)] (.box 67 [.f (.v (.int .i64 s.id)),.f (.v (.int .i64 s.ver)),.f (.v (.int .i64 s.time)),.f (.v (.int .i64 s.closed)),.f (.v (.bool s.cancel)),.f (fG s.defs),.f (fNn s.nodes),.f (fTm s.tms),.f (fSg s.sgs),.f (.v (.int .i64 ver)),.f (.v (.int .i64 now)),.f (fEv out)] :: H) K) (K (.f (.v (.int .i64 (startP ⟨s,ver,now,out⟩ ds).1))) (pnB (startP ⟨s,ver,now,out⟩ ds).2 :: H)):=⟨fun h =>
  callW_own (c_pen_Start ⟨s,ver,now,out⟩ ds ho.h hl.h k1.h) rfl rfl (fun _=>rfl) (fun _=>rfl) (fun _=>rfl) (fun _=>rfl) h⟩
instance {s : S12} {ver now : Int} {out : List Ev} {H : List Row} {K : D → List Row → Prop}  [ho : Kn (Ok12 s)] [hl : Kn (out.length ≤ 1000000)] :
    Wa (callW Tryd.prog (.fn 36 []) [.pt 0 0] (.box 67 [.f (.v (.int .i64 s.id)),.f (.v (.int .i64 s.ver)),.f (.v (.int .i64 s.time)),.f (.v (.int .i64 s.closed)),.f (.v (.bool s.cancel)),.f (fG s.defs),.f (fNn s.nodes),.f (fTm s.tms),.f (fSg s.sgs),.f (.v (.int .i64 ver)),.f (.v (.int .i64 now)),.f (fEv out)] :: H) K) (K (.tp [.f (.v (.int .i64 (beginP ⟨s,ver,now,out⟩).1.1)),.f (.v (.int .i64 (beginP ⟨s,ver,now,out⟩).1.2.1)),.f (.v (.int .i64 (beginP ⟨s,ver,now,out⟩).1.2.2))]) (pnB (beginP ⟨s,ver,now,out⟩).2 :: H)):=⟨fun h =>
  callW_own (c_pen_Begin ⟨s,ver,now,out⟩ ho.h hl.h) rfl rfl (fun _=>rfl) (fun _=>rfl) (fun _=>rfl) (fun _=>rfl) h⟩
instance {s : S12} {ver now : Int} {out : List Ev} {H : List Row} {K : Bool → D → List Row → Prop} {i t : Int} {ok : Bool} {d : Bs} [ho : Kn (Ok12 s)] [hl : Kn (out.length ≤ 1000000)] [k1 : Kn (d.length ≤ 1000000)] :
    Wa (callDr Tryd.prog (.fn 37 []) [.pt 0 0,.f (.v (.int .i64 i)),.f (.v (.int .i64 t)),.f (.v (.bool ok)),.f (fY d)] (.box 67 [.f (.v (.int .i64 s.id)),.f (.v (.int .i64 s.ver)),.f (.v (.int .i64 s.time)),.f (.v (.int .i64 s.closed)),.f (.v (.bool s.cancel)),.f (fG s.defs),.f (fNn s.nodes),.f (fTm s.tms),.f (fSg s.sgs),.f (.v (.int .i64 ver)),.f (.v (.int .i64 now)),.f (fEv out)] :: H) K) (K true (.f (.v (.int .i64 (finishP ⟨s,ver,now,out⟩ i t ok d).1))) (pnB (finishP ⟨s,ver,now,out⟩ i t ok d).2 :: H)):=⟨fun h =>
  callDr_own (c_pen_Finish ⟨s,ver,now,out⟩ i t ok d ho.h hl.h k1.h) rfl rfl (fun _=>rfl) (fun _=>rfl) (fun _=>rfl) (fun _=>rfl) h⟩
instance {s : S12} {ver now : Int} {out : List Ev} {H : List Row} {K : Bool → D → List Row → Prop} {nm : Bs} {t : Int} [ho : Kn (Ok12 s)] [hl : Kn (out.length ≤ 1000000)] [k1 : Kn (nm.length ≤ 1000000)] :
    Wa (callDr Tryd.prog (.fn 38 []) [.pt 0 0,.f (.v (.string (BB nm))),.f (.v (.int .i64 t))] (.box 67 [.f (.v (.int .i64 s.id)),.f (.v (.int .i64 s.ver)),.f (.v (.int .i64 s.time)),.f (.v (.int .i64 s.closed)),.f (.v (.bool s.cancel)),.f (fG s.defs),.f (fNn s.nodes),.f (fTm s.tms),.f (fSg s.sgs),.f (.v (.int .i64 ver)),.f (.v (.int .i64 now)),.f (fEv out)] :: H) K) (K true (.f (.v (.int .i64 (armP ⟨s,ver,now,out⟩ nm t).1))) (pnB (armP ⟨s,ver,now,out⟩ nm t).2 :: H)):=⟨fun h =>
  callDr_own (c_pen_Arm ⟨s,ver,now,out⟩ nm t ho.h hl.h k1.h) rfl rfl (fun _=>rfl) (fun _=>rfl) (fun _=>rfl) (fun _=>rfl) h⟩
instance {s : S12} {ver now : Int} {out : List Ev} {H : List Row} {K : Bool → D → List Row → Prop} {nm d : Bs} [ho : Kn (Ok12 s)] [hl : Kn (out.length ≤ 1000000)] [k1 : Kn (nm.length ≤ 1000000)] [k2 : Kn (d.length ≤ 1000000)] :
    Wa (callDr Tryd.prog (.fn 39 []) [.pt 0 0,.f (.v (.string (BB nm))),.f (fY d)] (.box 67 [.f (.v (.int .i64 s.id)),.f (.v (.int .i64 s.ver)),.f (.v (.int .i64 s.time)),.f (.v (.int .i64 s.closed)),.f (.v (.bool s.cancel)),.f (fG s.defs),.f (fNn s.nodes),.f (fTm s.tms),.f (fSg s.sgs),.f (.v (.int .i64 ver)),.f (.v (.int .i64 now)),.f (fEv out)] :: H) K) (K true (.tp [.f (.v (.bool (signalP ⟨s,ver,now,out⟩ nm d).1.1)),.f (.v (.int .i64 (signalP ⟨s,ver,now,out⟩ nm d).1.2))]) (pnB (signalP ⟨s,ver,now,out⟩ nm d).2 :: H)):=⟨fun h =>
  callDr_own (c_pen_Signal ⟨s,ver,now,out⟩ nm d ho.h hl.h k1.h k2.h) rfl rfl (fun _=>rfl) (fun _=>rfl) (fun _=>rfl) (fun _=>rfl) h⟩
instance {s : S12} {ver now : Int} {out : List Ev} {H : List Row} {K : D → List Row → Prop}  [ho : Kn (Ok12 s)] [hl : Kn (out.length ≤ 1000000)] :
    Wa (callW Tryd.prog (.fn 41 []) [.pt 0 0] (.box 67 [.f (.v (.int .i64 s.id)),.f (.v (.int .i64 s.ver)),.f (.v (.int .i64 s.time)),.f (.v (.int .i64 s.closed)),.f (.v (.bool s.cancel)),.f (fG s.defs),.f (fNn s.nodes),.f (fTm s.tms),.f (fSg s.sgs),.f (.v (.int .i64 ver)),.f (.v (.int .i64 now)),.f (fEv out)] :: H) K) (K (.f (.v (.int .i64 (cancelP ⟨s,ver,now,out⟩).1))) (pnB (cancelP ⟨s,ver,now,out⟩).2 :: H)):=⟨fun h =>
  callW_own (c_pen_Cancel ⟨s,ver,now,out⟩ ho.h hl.h) rfl rfl (fun _=>rfl) (fun _=>rfl) (fun _=>rfl) (fun _=>rfl) h⟩
instance {s : S12} {ver now : Int} {out : List Ev} {H : List Row} {K : D → List Row → Prop}  [ho : Kn (Ok12 s)] [hl : Kn (out.length ≤ 1000000)] :
    Wa (callW Tryd.prog (.fn 42 []) [.pt 0 0] (.box 67 [.f (.v (.int .i64 s.id)),.f (.v (.int .i64 s.ver)),.f (.v (.int .i64 s.time)),.f (.v (.int .i64 s.closed)),.f (.v (.bool s.cancel)),.f (fG s.defs),.f (fNn s.nodes),.f (fTm s.tms),.f (fSg s.sgs),.f (.v (.int .i64 ver)),.f (.v (.int .i64 now)),.f (fEv out)] :: H) K) (K (.f (.v (.int .i64 (termP ⟨s,ver,now,out⟩).1))) (pnB (termP ⟨s,ver,now,out⟩).2 :: H)):=⟨fun h =>
  callW_own (c_pen_Terminate ⟨s,ver,now,out⟩ ho.h hl.h) rfl rfl (fun _=>rfl) (fun _=>rfl) (fun _=>rfl) (fun _=>rfl) h⟩
instance {s : S12} {ver now : Int} {out : List Ev} {H : List Row} {K : D → List Row → Prop} [ho : Kn (Ok12 s)] [hl : Kn (out.length ≤ 1000000)] [k1 : Kn (∃ b,PnOk b ⟨s,ver,now,out⟩)] :
    Wa (callW Tryd.prog (.fn 40 []) [.pt 0 0] (.box 67 [.f (.v (.int .i64 s.id)),.f (.v (.int .i64 s.ver)),.f (.v (.int .i64 s.time)),.f (.v (.int .i64 s.closed)),.f (.v (.bool s.cancel)),.f (fG s.defs),.f (fNn s.nodes),.f (fTm s.tms),.f (fSg s.sgs),.f (.v (.int .i64 ver)),.f (.v (.int .i64 now)),.f (fEv out)] :: H) K) (K (.f (.v (.int .i64 (lateP ⟨s,ver,now,out⟩).1))) (pnB (lateP ⟨s,ver,now,out⟩).2 :: H)):=⟨fun h =>
  callW_own (k1.h.elim fun b hb=>c_pen_Late b ⟨s,ver,now,out⟩ hb) rfl rfl (fun _=>rfl) (fun _=>rfl) (fun _=>rfl) (fun _=>rfl) h⟩
end Go.Proofs.YtgbbpelfpagdoaaDoor.Mir
namespace Go.Proofs.YtgbbpelfpagdoaaDoor.Mir
open Go Go.RowKit
set_option maxHeartbeats 4000000
def SgN (e : Ev) : Prop:=e.ty = 7 → ∃ a b,e.name = nameL a ++ nameL b
def PnS (p : Pn) : Prop:=∀ e ∈ p.out,SgN e
theorem writeP_s {p : Pn} {e : Ev} (h : PnS p) (he : SgN e) : PnS (writeP p e).2:=by
  have hn : SgN (nextP p e):=he
  rcases writeP_is p e with ⟨_,h2⟩|⟨_,_,h2,_,h3⟩|⟨_,_,h2,_,f,hf,h3,h4⟩
  · rw [h2];exact h
  · rw [h3]
    intro x hx
    rcases List.mem_append.1 hx with hx|hx
    · exact h x hx
    · obtain rfl:=List.mem_singleton.1 hx;exact hn
  · rw [h4]
    intro x hx
    rcases List.mem_append.1 hx with hx|hx
    · exact h x hx
    · rcases List.mem_cons.1 hx with rfl|hx
      · exact hn
      · obtain rfl:=List.mem_singleton.1 hx
        intro ht
        have hk:=endingL_in (applyR p.s (nextP p e)).2
        have hft : x.ty = endingL (applyR p.s (nextP p e)).2:=by rw [hf];rfl
        omega
theorem sgN_of {e : Ev} (h : e.ty ≠ 7) : SgN e:=fun hh=>absurd hh h
structure PnT (b : S12) (p : Pn) : Prop where
  ok : PnOk b p
  sg : PnS p
theorem startP_t {b : S12} {p : Pn} {ds : List Nd} (h : PnT b p) (hd : Fit ds) : PnT b (startP p ds).2:=by
  refine ⟨startP_ok h.ok hd,?_⟩
  unfold startP
  repeat' split
  all_goals first|exact h.sg|exact writeP_s h.sg (sgN_of (by simp))
theorem beginP_t {b : S12} {p : Pn} (h : PnT b p) : PnT b (beginP p).2:=by
  refine ⟨beginP_ok h.ok,?_⟩
  unfold beginP
  repeat' split
  all_goals first|exact h.sg|exact writeP_s h.sg (sgN_of (by simp))
theorem finishP_t {b : S12} {p : Pn} {i t : Int} {ok : Bool} {d : Bs} (h : PnT b p) (hd : d.length ≤ 1000000) : PnT b (finishP p i t ok d).2:=by
  refine ⟨finishP_ok h.ok hd,?_⟩
  unfold finishP
  repeat' split
  all_goals first|exact h.sg|exact writeP_s h.sg (sgN_of (by simp))
theorem armP_t {b : S12} {p : Pn} {nm : Bs} {t : Int} (h : PnT b p) (hn : nm.length ≤ 1000000) : PnT b (armP p nm t).2:=by
  refine ⟨armP_ok h.ok hn,?_⟩
  unfold armP
  repeat' split
  all_goals first|exact h.sg|exact writeP_s h.sg (sgN_of (by simp))
theorem signalP_t {b : S12} {p : Pn} {x y : Int} {d : Bs} (h : PnT b p) (hn : (nameL x ++ nameL y).length ≤ 1000000) (hd : d.length ≤ 1000000) : PnT b (signalP p (nameL x ++ nameL y) d).2:=by
  refine ⟨signalP_ok h.ok hn hd,?_⟩
  unfold signalP
  repeat' split
  all_goals first|exact h.sg|exact writeP_s h.sg (fun _=>⟨x,y,rfl⟩)
theorem cancelP_t {b : S12} {p : Pn} (h : PnT b p) : PnT b (cancelP p).2:=by
  refine ⟨cancelP_ok h.ok,?_⟩
  unfold cancelP
  repeat' split
  all_goals first|exact h.sg|exact writeP_s h.sg (sgN_of (by simp))
theorem termP_t {b : S12} {p : Pn} (h : PnT b p) : PnT b (termP p).2:=by
  refine ⟨termP_ok h.ok,?_⟩
  unfold termP
  repeat' split
  all_goals first|exact h.sg|exact writeP_s h.sg (sgN_of (by simp))
theorem lateN_s {now : Int} : ∀ {k i : Nat} {p : Pn} {n : Int},PnS p → PnS (lateN now k i p n).2.1
  | 0,_,_,_,h=>h
  | k + 1,i,p,n,h=>by
    rw [lateN]
    have hw:=writeP_s (e:=⟨0,0,0,4,i,(gt p.s.nodes i).tr,[],[],[]⟩) h (sgN_of (by simp))
    split
    · exact h
    · split
      · exact lateN_s h
      · split
        · exact lateN_s h
        · split
          · exact hw
          · exact lateN_s hw
theorem lateT_s {now : Int} : ∀ {f : Nat} {p : Pn} {n : Int},PnS p → PnS (lateT now f p n).2
  | 0,_,_,h=>h
  | f + 1,p,n,h=>by
    rw [lateT]
    split
    · exact h
    · split
      · exact h
      · have hw:=writeP_s (e:=⟨0,0,0,6,0,0,(gt p.s.tms (pickF now p.s.tms 0 (-1) p.s.tms).toNat).name,[],[]⟩) h (sgN_of (by simp))
        split
        · exact hw
        · exact lateT_s hw
theorem lateP_t {b : S12} {p : Pn} (h : PnT b p) : PnT b (lateP p).2:=by
  refine ⟨lateP_ok h.ok,?_⟩
  unfold lateP
  split
  · exact lateN_s h.sg
  · exact lateT_s (lateN_s h.sg)
theorem bb_app {a b : Bs} : BB a ++ BB b = BB (a ++ b):=by
  apply ByteArray.ext
  rw [ByteArray.data_append]
  simp [BB]
set_option maxRecDepth 100000 in
theorem c_play_step (b : S12) (p : Pn) (x : Rw) (l : List Rd) (hp : PnT b p) : Con Tryd.prog 22 [.pt 0 0,rwD x,.f (fR l)] [pnB p] fun r H'=>r = .tp [] ∧ ∃ p',H' = [pnB p'] ∧ PnT b p':=by
  obtain ⟨s,ver,now,out⟩:=p
  suffices hh : ∀ Q : D → List Row → Prop,(∀ p',PnT b p' → Q (.tp []) [pnB p']) → Con Tryd.prog 22 [.pt 0 0,rwD x,.f (fR l)] [pnB ⟨s,ver,now,out⟩] Q from hh _ fun p' h=>⟨rfl,p',rfl,h⟩
  intro Q hQ
  have ho : Ok12 s:=hp.ok.ok
  have hl : out.length ≤ 200:=hp.ok.len
  haveI : Kn (Ok12 s):=⟨ho⟩
  haveI : Kn (Wk12 s):=⟨ho.wk⟩
  haveI : Kn (out.length ≤ 1000000):=⟨by omega⟩
  refine Con.walk good fn_play_step (by simp) ?_
  unfold s_play_step
  simp only [argsE,pnB,pnD,rwD]
  have hf1:=fewL_len (b:=x.data) (n:=40) (by omega)
  have hf2:=fewL_len (b:=x.data) (n:=0) (by omega)
  haveI : Kn ((fewL x.data 40).length ≤ 1000000):=⟨by omega⟩
  haveI : Kn ((fewL x.data 0).length ≤ 1000000):=⟨by omega⟩
  haveI : Kn ((nameL x.a).length ≤ 1000000):=⟨by have:=nameL_len x.a;omega⟩
  haveI : Kn (∃ b,PnOk b ⟨s,ver,now,out⟩):=⟨b,hp.ok⟩
  by_cases hz : s.id = 0
  · repeat' (first|(with_reducible first|refine Wx.h ?_|refine Wb.h fun K hK=>?_|(refine hK _ ?_;clear hK K)|(refine wT ?_ ?_;· assumption)|(refine wF ?_ ?_;· assumption))|((with_reducible refine kQ ?_ ?_);kernel_rfl)|((with_reducible refine k1 ?_ ?_);rfl)|((with_reducible refine k0 ?_ ?_);rfl)|((with_reducible apply kB)<;>first|rfl|intro h)|((with_reducible refine kM ?_ ?_);rfl)|(with_reducible refine Wq.h ?_ ?_)<;>intro h<;>try (exfalso;omega)|(with_reducible refine Wu.h ?_ ?_)<;>intro h<;>try simp only [h]|((fail_if_success with_reducible refine Wz.h ?_);first|simp (disch:=omega) only [↓LD,LA,loadA_rf,seval]|((with_reducible refine And.intro ?_ ?_);omega)|simp only [D.int,D.bool]))
    refine callW_emb (c_hand_Defs7 l) [] (by kernel_rfl) rfl rfl ?_
    rintro _ _ ⟨ds,rfl,hd1,hd2,hd3,rfl⟩
    haveI : Kn (Fit ds):=⟨hd1.fit hd3⟩
    simp (disch:=omega) only [↓LD,LA,loadA_rf,seval,ren,List.getElem?_nil]
    repeat' (first|(with_reducible first|refine Wx.h ?_|refine Wb.h fun K hK=>?_|(refine hK _ ?_;clear hK K)|(refine wT ?_ ?_;· assumption)|(refine wF ?_ ?_;· assumption))|((with_reducible refine kQ ?_ ?_);kernel_rfl)|((with_reducible refine k1 ?_ ?_);rfl)|((with_reducible refine k0 ?_ ?_);rfl)|((with_reducible apply kB)<;>first|rfl|intro h)|((with_reducible refine kM ?_ ?_);rfl)|(with_reducible refine Wq.h ?_ ?_)<;>intro h<;>try (exfalso;omega)|(with_reducible refine Wu.h ?_ ?_)<;>intro h<;>try simp only [h]|((fail_if_success with_reducible refine Wz.h ?_);first|simp (disch:=omega) only [↓LD,LA,loadA_rf,seval]|((with_reducible refine And.intro ?_ ?_);omega)|simp only [D.int,D.bool]))
    exact RetS.still (ds:=[]) (by kernel_rfl) (by kernel_rfl) (.tps .nil) (hQ _ (startP_t hp (hd1.fit hd3)))
  haveI : Kn ((nameL x.a ++ nameL x.b).length ≤ 1000000):=⟨by have:=nameL_len x.a;have:=nameL_len x.b;rw [List.length_append];omega⟩
  have hsz : (BB (nameL x.a)).size + (BB (nameL x.b)).size ≤ 1000:=by have:=nameL_len x.a;have:=nameL_len x.b;rw [bb_len,bb_len];omega
  have hnl:=ho.wk.fit.fit.nodes
  have hla:=nameL_len x.a
  have hlb:=nameL_len x.b
  have hpk:=pick_in (x:=x.b) (n:=9) (by omega)
  repeat' (first|(with_reducible first|refine Wx.h ?_|refine We.h fun K hK=>?_|refine Wd.h fun K M hK hM=>?_|(refine hK _ _ _ _ ?_;clear hK K;try clear hM M)|(refine hM ?_;clear hM M;try clear hK K)|refine Wb.h fun K hK=>?_|(refine hK _ ?_;clear hK K)|(refine wT ?_ ?_;· assumption)|(refine wF ?_ ?_;· assumption))|((with_reducible refine kQ ?_ ?_);kernel_rfl)|((with_reducible refine k1 ?_ ?_);rfl)|((with_reducible refine k0 ?_ ?_);rfl)|((with_reducible apply kB)<;>first|rfl|intro h)|((with_reducible refine kM ?_ ?_);rfl)|(with_reducible refine Wq.h ?_ ?_)<;>intro h<;>try (exfalso;omega)|(with_reducible refine Wu.h ?_ ?_)<;>intro h<;>try simp only [h]|((fail_if_success with_reducible refine Wz.h ?_);first|simp (disch:=omega) only [↓LD,LA,loadA_rf,seval,bb_app]|((with_reducible refine And.intro ?_ ?_);omega)|simp only [D.int,D.bool]))
  all_goals first
    | exact RetS.still (ds:=[]) (by kernel_rfl) (by kernel_rfl) (.tps .nil) (hQ _ (beginP_t hp))
    | exact RetS.still (ds:=[]) (by kernel_rfl) (by kernel_rfl) (.tps .nil) (hQ _ (armP_t hp (by have:=nameL_len x.a;omega)))
    | exact RetS.still (ds:=[]) (by kernel_rfl) (by kernel_rfl) (.tps .nil) (hQ _ (signalP_t hp (by have:=nameL_len x.a;have:=nameL_len x.b;rw [List.length_append];omega) (by omega)))
    | exact RetS.still (ds:=[]) (by kernel_rfl) (by kernel_rfl) (.tps .nil) (hQ _ (lateP_t hp))
    | exact RetS.still (ds:=[]) (by kernel_rfl) (by kernel_rfl) (.tps .nil) (hQ _ (cancelP_t hp))
    | exact RetS.still (ds:=[]) (by kernel_rfl) (by kernel_rfl) (.tps .nil) (hQ _ (termP_t hp))
    | exact RetS.still (ds:=[]) (by kernel_rfl) (by kernel_rfl) (.tps .nil) (hQ _ hp)
    | skip
  all_goals
    refine HS.loopG [0,4,6] (fun i : Nat=>⟨frm 124 [(0,.pt 0 0),(4,.pt 1 0),(6,D.int i)],[pnB ⟨s,ver,now,out⟩,.box 45 [D.int x.what,D.int x.a,D.int x.b,D.int x.c,D.int x.v,.f (fY x.data)]],[]⟩)
      (fun i=>i ≤ s.nodes.length) (fun i=>s.nodes.length - i) 0 (by kernel_rfl) (Nat.zero_le _) ?_
    rintro i hi
    repeat' (first|(with_reducible first|refine Wx.h ?_|refine We.h fun K hK=>?_|refine Wd.h fun K M hK hM=>?_|(refine hK _ _ _ _ ?_;clear hK K;try clear hM M)|(refine hM ?_;clear hM M;try clear hK K)|refine Wb.h fun K hK=>?_|(refine hK _ ?_;clear hK K)|(refine wT ?_ ?_;· assumption)|(refine wF ?_ ?_;· assumption))|((with_reducible refine kQ ?_ ?_);kernel_rfl)|((with_reducible refine k1 ?_ ?_);rfl)|((with_reducible refine k0 ?_ ?_);rfl)|((with_reducible apply kB)<;>first|rfl|intro h)|((with_reducible refine kM ?_ ?_);rfl)|(with_reducible refine Wq.h ?_ ?_)<;>intro h<;>try (exfalso;omega)|(with_reducible refine Wu.h ?_ ?_)<;>intro h<;>try simp only [h]|((fail_if_success with_reducible refine Wz.h ?_);first|simp (disch:=omega) only [↓LD,LA,loadA_rf,seval,LSt,pnB,pnD,at0_fNn,at1_fNn,len_fNn,Nn.cs]|((with_reducible refine And.intro ?_ ?_);omega)|simp only [D.int,D.bool]))
    all_goals first
      | exact RetS.still (ds:=[]) (by kernel_rfl) (by kernel_rfl) (.tps .nil) (hQ _ (finishP_t hp (by omega)))
      | exact RetS.still (ds:=[]) (by kernel_rfl) (by kernel_rfl) (.tps .nil) (hQ _ (beginP_t hp))
      | exact Next.mk (i + 1) (by kernel_rfl) (by omega) (by omega)
end Go.Proofs.YtgbbpelfpagdoaaDoor.Mir
