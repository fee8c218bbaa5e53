/- Lemmas for the proof. No condition. -/
import Derived.Test.YtahoaijkchgdaaaGreatDoorSo12
set_option linter.unusedVariables false
set_option linter.unusedSimpArgs false
namespace Go.Proofs.YtahoaijkchgdaaaGreatDoor.Mir
open Go Go.RowKit
set_option maxHeartbeats 4000000
theorem vws_evD {H:List Row}{e:Ev}:Vw H (evD e) (evD e):=.ags (.cons .f (.cons .f (.cons .f (.cons .f (.cons .f (.cons .f (.cons .f (.cons .f (.cons .f .nil)))))))))
theorem inf_Ev:inf Tryz.prog 42=some (9,112,[.int .i64 0,.int .i64 0,.int .i64 0,.int .i64 0,.int .i64 0,.int .i64 0,.string ⟨#[]⟩,.slice none 0 0,.slice none 0 0]):=by kernel_rfl
theorem ev_app {l:List Ev}{e:Ev}:l.flatMap Ev.cs++[F.v (.int .i64 e.id),.v (.int .i64 e.ver),.v (.int .i64 e.time),.v (.int .i64 e.ty),.v (.int .i64 e.node),.v (.int .i64 e.n),.v (.string (BB e.name)),fY e.data,fG e.defs]=(l++[e]).flatMap Ev.cs:=by simp [Ev.cs]
theorem ev_app2 {l:List Ev}{e f:Ev}:l.flatMap Ev.cs++[F.v (.int .i64 e.id),.v (.int .i64 e.ver),.v (.int .i64 e.time),.v (.int .i64 e.ty),.v (.int .i64 e.node),.v (.int .i64 e.n),.v (.string (BB e.name)),fY e.data,fG e.defs,F.v (.int .i64 f.id),.v (.int .i64 f.ver),.v (.int .i64 f.time),.v (.int .i64 f.ty),.v (.int .i64 f.node),.v (.int .i64 f.n),.v (.string (BB f.name)),fY f.data,fG f.defs]=(l++[e,f]).flatMap Ev.cs:=by simp [Ev.cs]
structure Pn where
 s:S12
 ver:Int
 now:Int
 out:List Ev
def pnD (p:Pn):List D:=[D.int p.s.id,D.int p.s.ver,D.int p.s.time,D.int p.s.closed,D.bool p.s.cancel,.f (fG p.s.defs),.f (fNn p.s.nodes),.f (fTm p.s.tms),.f (fSg p.s.sgs),D.int p.ver,D.int p.now,.f (fEv p.out)]
def pnB (p:Pn):Row:=.box 118 (pnD p)
def nextP (p:Pn)(e:Ev):Ev:={ e with id:=p.s.id+1,ver:=p.ver,time:=max p.now p.s.time }
theorem c_pen_next (p:Pn)(e:Ev)(hi:0≤p.s.id∧p.s.id<1000000000):Con Tryz.prog 272 [.pt 0 0,evD e] [pnB p] fun r H'=>r=evD (nextP p e)∧H'=[pnB p]:=by
 obtain ⟨⟨id,ver,time,closed,cancel,defs,nodes,tms,sgs⟩,v,now,out⟩:=p
 obtain ⟨hi1,hi2⟩:=hi
 dsimp only at hi1 hi2
 refine Con.walk good fn_pen_next (by simp) ?_
 unfold s_pen_next
 simp only [argsE,pnB,pnD,evD]
 repeat' (with_reducible first|apply Wx.h|refine We.h fun K hK=>?_|refine Wd.h fun K M hK hM=>?_|(refine hK _ _ _ _ ?_;clear hK K;try clear hM M)|(refine hM ?_;clear hM M;try clear hK K)|refine Wb.h fun K hK=>?_|(refine hK _ ?_;clear hK K)|(apply wT;assumption)|(apply wF;assumption)|(apply Wy.h;kernel_rfl)|apply Wq.h<;>intro h<;>try (exfalso;omega)|apply Wu.h<;>intro h<;>try simp only [h]|((fail_if_success apply Wz.h);first|simp (disch:=omega) only [↓LD,LA,loadA_rf,seval]|(apply And.intro;omega)|simp only [D.int,D.bool]))
 exact RetS.still (ds:=[evD (nextP ⟨⟨id,ver,time,closed,cancel,defs,nodes,tms,sgs⟩,v,now,out⟩ e)]) (by kernel_rfl) (by kernel_rfl) vws_evD ⟨rfl,rfl⟩
def ev0 (ty:Int):Ev:=⟨0,0,0,ty,0,0,[],[],[]⟩
theorem endingL_in (s:S12):endingL s=0∨endingL s=9∨endingL s=10∨endingL s=11:=by
 unfold endingL;split
 ·omega
 ·split
  ·omega
  ·split
   ·omega
   ·split<;>omega
def endP (p:Pn)(s:S12)(e1:Ev):Int × Pn :=
  if endingL s≠0 then
    (if 200<s.id+1 then (2,p)
     else if (applyR s (nextP { p with s:=s } (ev0 (endingL s)))).1≠0 then ((applyR s (nextP { p with s:=s } (ev0 (endingL s)))).1,p)
     else (0,{ p with s:=(applyR s (nextP { p with s:=s } (ev0 (endingL s)))).2,out:=p.out++[e1,nextP { p with s:=s } (ev0 (endingL s))] }))
  else (0,{ p with s:=s,out:=p.out++[e1] })
def writeP (p:Pn)(e:Ev):Int × Pn :=
 if 200<p.s.id+1 then
  (if (applyR { p.s with id:=1 } { nextP p e with id:=2 }).1≠0 then ((applyR { p.s with id:=1 } { nextP p e with id:=2 }).1,p) else (2,p))
 else if (applyR p.s (nextP p e)).1≠0 then ((applyR p.s (nextP p e)).1,p)
 else endP p (applyR p.s (nextP p e)).2 (nextP p e)
set_option maxRecDepth 100000 in
theorem c_pen_write (p:Pn)(e:Ev)(ho:Ok12 p.s)(he:FitV e)(hl:p.out.length≤1000000):Con Tryz.prog 225 [.pt 0 0,evD e] [pnB p] fun r H'=>r=D.int (writeP p e).1∧H'=[pnB (writeP p e).2]:=by
  obtain ⟨s,ver,now,out⟩:=p
  suffices hh:∀ Q:D→List Row→Prop,(∀ r H',r=D.int (writeP ⟨s,ver,now,out⟩ e).1→H'=[pnB (writeP ⟨s,ver,now,out⟩ e).2]→Q r H')→Con Tryz.prog 225 [.pt 0 0,evD e] [pnB ⟨s,ver,now,out⟩] Q from hh _ fun _ _ h1 h2=>⟨h1,h2⟩
  intro Q hQ
  dsimp only at ho hl
  have hid:=ho.id
  haveI:Kn (Wk12 s):=⟨ho.wk⟩
  have hn:FitV (nextP ⟨s,ver,now,out⟩ e):=he
  haveI:Kn (FitV (nextP ⟨s,ver,now,out⟩ e)):=⟨hn⟩
  refine Con.walk good fn_pen_write (by simp) ?_
  unfold s_pen_write
  simp only [argsE,pnB,pnD,evD]
  repeat' (with_reducible first|apply Wx.h|refine We.h fun K hK=>?_|refine Wd.h fun K M hK hM=>?_|(refine hK _ _ _ _ ?_;clear hK K;try clear hM M)|(refine hM ?_;clear hM M;try clear hK K)|refine Wb.h fun K hK=>?_|(refine hK _ ?_;clear hK K)|(apply wT;assumption)|(apply wF;assumption)|(apply Wy.h;kernel_rfl)|apply Wq.h<;>intro h<;>try (exfalso;omega)|apply Wu.h<;>intro h<;>try simp only [h]|((fail_if_success apply Wz.h);first|simp (disch:=omega) only [↓LD,LA,loadA_rf,seval,LEv]|(apply And.intro;omega)|simp only [D.int,D.bool]))
  all_goals refine callW_own (c_pen_next ⟨s,ver,now,out⟩ e ⟨by dsimp only;omega,by dsimp only;omega⟩) rfl rfl (fun _=>rfl) (fun _=>rfl) (fun _=>rfl) (fun _=>rfl) ?_
  repeat' (with_reducible first|apply Wx.h|refine We.h fun K hK=>?_|refine Wd.h fun K M hK hM=>?_|(refine hK _ _ _ _ ?_;clear hK K;try clear hM M)|(refine hM ?_;clear hM M;try clear hK K)|refine Wb.h fun K hK=>?_|(refine hK _ ?_;clear hK K)|(apply wT;assumption)|(apply wF;assumption)|(apply Wy.h;kernel_rfl)|apply Wq.h<;>intro h<;>try (exfalso;omega)|apply Wu.h<;>intro h<;>try simp only [h]|((fail_if_success apply Wz.h);first|simp (disch:=omega) only [↓LD,LA,loadA_rf,seval,LEv,pnB,pnD,evD,List.set_cons_zero]|(apply And.intro;omega)|simp only [D.int,D.bool]))
  · have h2:200<s.id+1:=by assumption
    refine callDr_pure (Wk12.app (ho.wk1 (by omega)) (e:={ nextP ⟨s,ver,now,out⟩ e with id:=2 }) hn) rfl rfl rfl ?_
    repeat' (with_reducible first|apply Wx.h|refine We.h fun K hK=>?_|refine Wd.h fun K M hK hM=>?_|(refine hK _ _ _ _ ?_;clear hK K;try clear hM M)|(refine hM ?_;clear hM M;try clear hK K)|refine Wb.h fun K hK=>?_|(refine hK _ ?_;clear hK K)|(apply wT;assumption)|(apply wF;assumption)|(apply Wy.h;kernel_rfl)|apply Wq.h<;>intro h<;>try (exfalso;omega)|apply Wu.h<;>intro h<;>try simp only [h]|((fail_if_success apply Wz.h);first|simp (disch:=omega) only [↓LD,LA,loadA_rf,seval,stD]|(apply And.intro;omega)|simp only [D.int,D.bool]))
    · have hb:writeP ⟨s,ver,now,out⟩ e=(2,⟨s,ver,now,out⟩):=by unfold writeP;rw [if_pos h2,if_neg (fun hh=>hh (by assumption))]
      rw [hb] at hQ
      exact end1 rfl rfl (by kernel_rfl) .f (hQ _ _ rfl rfl)
    · have hb:writeP ⟨s,ver,now,out⟩ e=((applyR { s with id:=1 } { nextP ⟨s,ver,now,out⟩ e with id:=2 }).1,⟨s,ver,now,out⟩):=by unfold writeP;rw [if_pos h2,if_pos (by assumption)]
      rw [hb] at hQ
      exact end1 rfl rfl (by kernel_rfl) .f (hQ _ _ rfl rfl)
  rotate_left
  · have h2:¬ 200<s.id+1:=by assumption
    have hb:writeP ⟨s,ver,now,out⟩ e=((applyR s (nextP ⟨s,ver,now,out⟩ e)).1,⟨s,ver,now,out⟩):=by unfold writeP;rw [if_neg h2,if_pos (by assumption)]
    rw [hb] at hQ
    exact end1 rfl rfl (by kernel_rfl) .f (hQ _ _ rfl rfl)
  have h2:¬ 200<s.id+1:=by assumption
  have h3:(applyR s (nextP ⟨s,ver,now,out⟩ e)).1=0:=by assumption
  have hb:writeP ⟨s,ver,now,out⟩ e=endP ⟨s,ver,now,out⟩ (applyR s (nextP ⟨s,ver,now,out⟩ e)).2 (nextP ⟨s,ver,now,out⟩ e):=by unfold writeP;rw [if_neg h2,if_neg (fun hh=>hh h3)]
  rw [hb] at hQ
  clear hb
  have ho2:=ok12_apply ho hn.2.2.2 h3
  have hid2:=ho2.id
  have hnl:=ho2.wk.fit.fit.nodes
  haveI:Kn (Wk12 (applyR s (nextP ⟨s,ver,now,out⟩ e)).2):=⟨ho2.wk⟩
  generalize (applyR s (nextP ⟨s,ver,now,out⟩ e)).1=v1 at *
  generalize (applyR s (nextP ⟨s,ver,now,out⟩ e)).2=s1 at *
  generalize nextP ⟨s,ver,now,out⟩ e=e1 at *
  refine callW_pure (c_ref_Ending s1 hnl) rfl rfl rfl ?_
  have hek:=endingL_in s1
  have hn2:FitV (nextP ⟨s1,ver,now,out⟩ (ev0 (endingL s1))):=⟨by simp [nextP,ev0],by simp [nextP,ev0],⟨by simp [nextP,ev0],by simp [nextP,ev0]⟩⟩
  haveI:Kn (FitV (nextP ⟨s1,ver,now,out⟩ (ev0 (endingL s1)))):=⟨hn2⟩
  repeat' (with_reducible first|apply Wa.h|apply Ws.h|refine We.h fun K hK=>?_|refine Wd.h fun K M hK hM=>?_|(refine hK _ _ _ _ ?_;clear hK K;try clear hM M)|(refine hM ?_;clear hM M;try clear hK K)|refine Wb.h fun K hK=>?_|(refine hK _ ?_;clear hK K)|(apply wT;assumption)|(apply wF;assumption)|(apply Wy.h;kernel_rfl)|apply Wq.h<;>intro h<;>try (exfalso;omega)|apply Wu.h<;>intro h<;>try simp only [h]|((fail_if_success apply Wz.h);first|simp (disch:=omega) only [↓LD,LA,loadA_rf,seval,LEv,len_fEv]|(apply And.intro;omega)|simp only [D.int,D.bool]))
  · have h5:endingL s1=0:=by assumption
    have hb:endP ⟨s,ver,now,out⟩ s1 e1=(0,⟨s1,ver,now,out++[e1]⟩):=by unfold endP;rw [if_neg (fun hh=>hh h5)]
    obtain rfl:out=[]:=List.eq_nil_of_length_eq_zero (by assumption)
    rw [hb] at hQ
    refine HS.view (View.fixb (xs:=[D.int s1.id,D.int s1.ver,D.int s1.time,D.int s1.closed,D.bool s1.cancel,.f (fG s1.defs),.f (fNn s1.nodes),.f (fTm s1.tms),.f (fSg s1.sgs),D.int ver,D.int now,.sl 5 0 1]) (ys:=([]++[e1]).flatMap Ev.cs) 0 11 5 rfl rfl rfl inf_Ev (by omega) len_fEv (by omega)) ?_
    repeat' (with_reducible first|apply Wx.h|refine Wb.h fun K hK=>?_|(refine hK _ ?_;clear hK K)|(apply wT;assumption)|(apply wF;assumption)|(apply Wy.h;kernel_rfl)|apply Wq.h<;>intro h<;>try (exfalso;omega)|apply Wu.h<;>intro h<;>try simp only [h]|((fail_if_success apply Wz.h);first|simp (disch:=omega) only [↓LD,LA,loadA_rf,seval]|(apply And.intro;omega)|simp only [D.int,D.bool]))
    exact end1 rfl rfl (by kernel_rfl) .f (hQ _ _ rfl rfl)
  · have h5:endingL s1=0:=by assumption
    have hb:endP ⟨s,ver,now,out⟩ s1 e1=(0,⟨s1,ver,now,out++[e1]⟩):=by unfold endP;rw [if_neg (fun hh=>hh h5)]
    rw [hb] at hQ
    rw [ev_app,show out.length+1=(out++[e1]).length by simp]
    refine HS.view (View.fixb 0 11 6 rfl rfl rfl inf_Ev (by simp) len_fEv (by omega)) ?_
    repeat' (with_reducible first|apply Wx.h|refine Wb.h fun K hK=>?_|(refine hK _ ?_;clear hK K)|(apply wT;assumption)|(apply wF;assumption)|(apply Wy.h;kernel_rfl)|apply Wq.h<;>intro h<;>try (exfalso;omega)|apply Wu.h<;>intro h<;>try simp only [h]|((fail_if_success apply Wz.h);first|simp (disch:=omega) only [↓LD,LA,loadA_rf,seval]|(apply And.intro;omega)|simp only [D.int,D.bool]))
    exact end1 rfl rfl (by kernel_rfl) .f (hQ _ _ rfl rfl)
  refine callW_less (args0:=[.pt 0 0,evD (ev0 (endingL s1))]) ?_ (by repeat' (first|exact WDs.nil|refine WDs.cons ?_ ?_|exact WD.refl|exact WD.f .ns|exact WD.f .es|refine WD.ags ?_|refine WD.f (WF.ls ?_)|exact WFs.nil|refine WFs.cons ?_ ?_|exact WF.refl|exact WF.ns|exact WF.es))
  refine callW_own (c_pen_next ⟨s1,ver,now,out⟩ (ev0 (endingL s1)) ⟨by dsimp only;omega,by dsimp only;omega⟩) rfl rfl (fun _=>rfl) (fun _=>rfl) (fun _=>rfl) (fun _=>rfl) ?_
  have h5:¬ endingL s1=0:=by assumption
  have hb:endP ⟨s,ver,now,out⟩ s1 e1=if 200<s1.id+1 then (2,⟨s,ver,now,out⟩) else if (applyR s1 (nextP ⟨s1,ver,now,out⟩ (ev0 (endingL s1)))).1≠0 then ((applyR s1 (nextP ⟨s1,ver,now,out⟩ (ev0 (endingL s1)))).1,⟨s,ver,now,out⟩)
     else (0,⟨(applyR s1 (nextP ⟨s1,ver,now,out⟩ (ev0 (endingL s1)))).2,ver,now,out++[e1,nextP ⟨s1,ver,now,out⟩ (ev0 (endingL s1))]⟩):=by unfold endP;rw [if_pos h5]
  rw [hb] at hQ
  clear hb
  have hni:(nextP ⟨s1,ver,now,out⟩ (ev0 (endingL s1))).id=s1.id+1:=rfl
  generalize nextP ⟨s1,ver,now,out⟩ (ev0 (endingL s1))=e2 at *
  repeat' (with_reducible first|apply Wa.h|apply Ws.h|refine We.h fun K hK=>?_|refine Wd.h fun K M hK hM=>?_|(refine hK _ _ _ _ ?_;clear hK K;try clear hM M)|(refine hM ?_;clear hM M;try clear hK K)|refine Wb.h fun K hK=>?_|(refine hK _ ?_;clear hK K)|(apply wT;assumption)|(apply wF;assumption)|(apply Wy.h;kernel_rfl)|apply Wq.h<;>intro h<;>try (exfalso;omega)|apply Wu.h<;>intro h<;>try simp only [h]|((fail_if_success apply Wz.h);first|simp (disch:=omega) only [↓LD,LA,loadA_rf,seval,LEv,len_fEv,pnB,pnD,evD]|(apply And.intro;omega)|simp only [D.int,D.bool]))
  · rw [if_pos (show 200<s1.id+1 by omega)] at hQ
    repeat' (with_reducible first|apply Wx.h|refine Wb.h fun K hK=>?_|(refine hK _ ?_;clear hK K)|(apply wT;assumption)|(apply wF;assumption)|(apply Wy.h;kernel_rfl)|apply Wq.h<;>intro h<;>try (exfalso;omega)|apply Wu.h<;>intro h<;>try simp only [h]|((fail_if_success apply Wz.h);first|simp (disch:=omega) only [↓LD,LA,loadA_rf,seval]|(apply And.intro;omega)|simp only [D.int,D.bool]))
    exact end1 rfl rfl (by kernel_rfl) .f (hQ _ _ rfl rfl)
  · rw [if_neg (show ¬ 200<s1.id+1 by omega),if_neg (fun hh=>hh (show (applyR s1 e2).1=0 by assumption))] at hQ
    obtain rfl:out=[]:=List.eq_nil_of_length_eq_zero (by assumption)
    refine HS.view (View.fixb (xs:=[D.int (applyR s1 e2).2.id,D.int (applyR s1 e2).2.ver,D.int (applyR s1 e2).2.time,D.int (applyR s1 e2).2.closed,D.bool (applyR s1 e2).2.cancel,.f (fG (applyR s1 e2).2.defs),.f (fNn (applyR s1 e2).2.nodes),.f (fTm (applyR s1 e2).2.tms),.f (fSg (applyR s1 e2).2.sgs),D.int ver,D.int now,.sl 8 0 2]) (ys:=([]++[e1,e2]).flatMap Ev.cs) 0 11 8 rfl rfl rfl inf_Ev (by omega) len_fEv (by omega)) ?_
    repeat' (with_reducible first|apply Wx.h|refine Wb.h fun K hK=>?_|(refine hK _ ?_;clear hK K)|(apply wT;assumption)|(apply wF;assumption)|(apply Wy.h;kernel_rfl)|apply Wq.h<;>intro h<;>try (exfalso;omega)|apply Wu.h<;>intro h<;>try simp only [h]|((fail_if_success apply Wz.h);first|simp (disch:=omega) only [↓LD,LA,loadA_rf,seval]|(apply And.intro;omega)|simp only [D.int,D.bool]))
    exact end1 rfl rfl (by kernel_rfl) .f (hQ _ _ rfl rfl)
  · rw [if_neg (show ¬ 200<s1.id+1 by omega),if_neg (fun hh=>hh (show (applyR s1 e2).1=0 by assumption))] at hQ
    rw [ev_app2,show out.length+2=(out++[e1,e2]).length by simp]
    refine HS.view (View.fixb 0 11 9 rfl rfl rfl inf_Ev (by simp) len_fEv (by omega)) ?_
    repeat' (with_reducible first|apply Wx.h|refine Wb.h fun K hK=>?_|(refine hK _ ?_;clear hK K)|(apply wT;assumption)|(apply wF;assumption)|(apply Wy.h;kernel_rfl)|apply Wq.h<;>intro h<;>try (exfalso;omega)|apply Wu.h<;>intro h<;>try simp only [h]|((fail_if_success apply Wz.h);first|simp (disch:=omega) only [↓LD,LA,loadA_rf,seval]|(apply And.intro;omega)|simp only [D.int,D.bool]))
    exact end1 rfl rfl (by kernel_rfl) .f (hQ _ _ rfl rfl)
  · rw [if_neg (show ¬ 200<s1.id+1 by omega),if_pos (show (applyR s1 e2).1≠0 by assumption)] at hQ
    repeat' (with_reducible first|apply Wx.h|refine Wb.h fun K hK=>?_|(refine hK _ ?_;clear hK K)|(apply wT;assumption)|(apply wF;assumption)|(apply Wy.h;kernel_rfl)|apply Wq.h<;>intro h<;>try (exfalso;omega)|apply Wu.h<;>intro h<;>try simp only [h]|((fail_if_success apply Wz.h);first|simp (disch:=omega) only [↓LD,LA,loadA_rf,seval]|(apply And.intro;omega)|simp only [D.int,D.bool]))
    exact end1 rfl rfl (by kernel_rfl) .f (hQ _ _ rfl rfl)
instance:Kn (([]:Bs).length≤1000000):=⟨by simp⟩
instance:Kn (Fit []):=⟨by simp [Fit]⟩
instance {s:S12}{ver now:Int}{out:List Ev}{H:List Row}{K:D→List Row→Prop}{a b c ty node n:Int}{nm dt df:D}{nm' dt':Bs}{df':List Nd}[h1:StrC nm nm'][h2:DatC dt dt'][h3:DefC df df'][ho:Kn (Ok12 s)][hl:Kn (out.length≤1000000)][k1:Kn (nm'.length≤1000000)][k2:Kn (dt'.length≤1000000)][k3:Kn (Fit df')] :
  Wa (callW Tryz.prog (.fn 225 []) [.pt 0 0,.ag [.f (.v (.int .i64 a)),.f (.v (.int .i64 b)),.f (.v (.int .i64 c)),.f (.v (.int .i64 ty)),.f (.v (.int .i64 node)),.f (.v (.int .i64 n)),nm,dt,df]]
   (.box 118 [.f (.v (.int .i64 s.id)),.f (.v (.int .i64 s.ver)),.f (.v (.int .i64 s.time)),.f (.v (.int .i64 s.closed)),.f (.v (.bool s.cancel)),.f (fG s.defs),.f (fNn s.nodes),.f (fTm s.tms),.f (fSg s.sgs),.f (.v (.int .i64 ver)),.f (.v (.int .i64 now)),.f (fEv out)] :: H) K)
  (K (.f (.v (.int .i64 (writeP ⟨s,ver,now,out⟩ ⟨a,b,c,ty,node,n,nm',dt',df'⟩).1))) (pnB (writeP ⟨s,ver,now,out⟩ ⟨a,b,c,ty,node,n,nm',dt',df'⟩).2 :: H)):=⟨fun h=>by
 obtain ⟨h1⟩:=h1;obtain ⟨h2⟩:=h2;obtain ⟨h3⟩:=h3
 subst h1
 refine callW_less (args0:=[.pt 0 0,evD ⟨a,b,c,ty,node,n,nm',dt',df'⟩]) ?_ (.cons .refl (.cons (WD.ags (.cons .refl (.cons .refl (.cons .refl (.cons .refl (.cons .refl (.cons .refl (.cons .refl (.cons h2 (.cons h3 .nil)))))))))) .nil))
 exact callW_own (c_pen_write ⟨s,ver,now,out⟩ ⟨a,b,c,ty,node,n,nm',dt',df'⟩ ho.h ⟨k2.h,k1.h,k3.h⟩ hl.h) rfl rfl (fun _=>rfl) (fun _=>rfl) (fun _=>rfl) (fun _=>rfl) h⟩
def openP (s:S12):Int:=if s.id=0 then 3 else if s.closed≠0 then 12 else 0
theorem c_pen_open (p:Pn):Con Tryz.prog 226 [.pt 0 0] [pnB p] fun r H'=>r=D.int (openP p.s)∧H'=[pnB p]:=by
 refine Con.walk good fn_pen_open (by simp) ?_
 unfold s_pen_open
 simp only [argsE,pnB,pnD]
 repeat' (with_reducible first|apply Wx.h|refine Wb.h fun K hK=>?_|(refine hK _ ?_;clear hK K)|(apply wT;assumption)|(apply wF;assumption)|(apply Wy.h;kernel_rfl)|apply Wq.h<;>intro h<;>try (exfalso;omega)|apply Wu.h<;>intro h<;>try simp only [h]|((fail_if_success apply Wz.h);first|simp (disch:=omega) only [↓LD,LA,loadA_rf,seval]|(apply And.intro;omega)|simp only [D.int,D.bool]))
 all_goals (refine end1 rfl rfl (by kernel_rfl) .f ⟨congrArg D.int ?_,rfl⟩;simp [openP, *])
instance {s:S12}{ver now:Int}{out:List Ev}{H:List Row}{K:D→List Row→Prop} :
  Wa (callW Tryz.prog (.fn 226 []) [.pt 0 0]
   (.box 118 [.f (.v (.int .i64 s.id)),.f (.v (.int .i64 s.ver)),.f (.v (.int .i64 s.time)),.f (.v (.int .i64 s.closed)),.f (.v (.bool s.cancel)),.f (fG s.defs),.f (fNn s.nodes),.f (fTm s.tms),.f (fSg s.sgs),.f (.v (.int .i64 ver)),.f (.v (.int .i64 now)),.f (fEv out)] :: H) K)
  (K (.f (.v (.int .i64 (openP s)))) (.box 118 [.f (.v (.int .i64 s.id)),.f (.v (.int .i64 s.ver)),.f (.v (.int .i64 s.time)),.f (.v (.int .i64 s.closed)),.f (.v (.bool s.cancel)),.f (fG s.defs),.f (fNn s.nodes),.f (fTm s.tms),.f (fSg s.sgs),.f (.v (.int .i64 ver)),.f (.v (.int .i64 now)),.f (fEv out)] :: H)):=⟨fun h =>
 callW_own (c_pen_open ⟨s,ver,now,out⟩) rfl rfl (fun _=>rfl) (fun _=>rfl) (fun _=>rfl) (fun _=>rfl) h⟩
instance {s:S12}{H:List Row}{K:D→List Row→Prop}[hs:Kn (Wk12 s)]:Wa (callW Tryz.prog (.fn 227 []) [.ag [.f (.v (.int .i64 s.id)),.f (.v (.int .i64 s.ver)),.f (.v (.int .i64 s.time)),.f (.v (.int .i64 s.closed)),.f (.v (.bool s.cancel)),.f (fG s.defs),.f (fNn s.nodes),.f (fTm s.tms),.f (fSg s.sgs)]] H K)
  (K (.f (fI (readyR s))) H):=⟨fun h=>callW_pure (c_ref_ReadyNodesF s hs.h.fit.defs hs.h.pos hs.h.fit.fit.nodes hs.h.len) rfl rfl rfl h⟩
instance {s:S12}{nm:Bs}{H:List Row}{K:D→List Row→Prop}[hs:Kn (Wk12 s)]:Wa (callW Tryz.prog (.fn 27 []) [.ag [.f (.v (.int .i64 s.id)),.f (.v (.int .i64 s.ver)),.f (.v (.int .i64 s.time)),.f (.v (.int .i64 s.closed)),.f (.v (.bool s.cancel)),.f (fG s.defs),.f (fNn s.nodes),.f (fTm s.tms),.f (fSg s.sgs)],.f (.v (.string (BB nm)))] H K)
  (K (.f (.v (.bool (hasSg s.sgs nm)))) H):=⟨fun h=>callW_pure (c_ref_Has s nm hs.h.fit.fit.sgs) rfl rfl rfl h⟩
def startP (p:Pn)(ds:List Nd):Int × Pn:=if 0<p.s.id then (13,p) else if checkL ds≠0 then (checkL ds,p) else writeP p ⟨0,0,0,1,0,0,[],[],ds⟩
theorem end3 {n0 n t u v:Nat}{e:List (Nat × D)}{H:List Row}{dr:List Nat}{d f g:F}{Q:D→List Row→Prop}(ht:Nat.blt t n=true)(hu:Nat.blt u n=true)(hv:Nat.blt v n=true)(h:look t e = .f d)(k:look u e = .f f)(m:look v e = .f g)(hl:lowB n0 (H.take n0)=true)(q:Q (.tp [.f d,.f f,.f g]) (H.take n0)):RetS n0 [.t t,.t u,.t v] Q ⟨frm n e,H,dr⟩:=by
 refine .still (ds:=[.f d,.f f,.f g]) ?_ hl (.tps (.cons .f (.cons .f (.cons .f .nil)))) q
 simp only [resS]
 rw [frm_getD (by simpa using ht),frm_getD (by simpa using hu),frm_getD (by simpa using hv),h,k,m]
theorem c_pen_Start (p:Pn)(ds:List Nd)(ho:Ok12 p.s)(hl:p.out.length≤1000000)(hf:Fit ds):Con Tryz.prog 151 [.pt 0 0,.f (fG ds)] [pnB p] fun r H'=>r=D.int (startP p ds).1∧H'=[pnB (startP p ds).2]:=by
 obtain ⟨s,ver,now,out⟩:=p
 suffices hh:∀ Q:D→List Row→Prop,(∀ r H',r=D.int (startP ⟨s,ver,now,out⟩ ds).1→H'=[pnB (startP ⟨s,ver,now,out⟩ ds).2]→Q r H')→Con Tryz.prog 151 [.pt 0 0,.f (fG ds)] [pnB ⟨s,ver,now,out⟩] Q from hh _ fun _ _ h1 h2=>⟨h1,h2⟩
 intro Q hQ
 dsimp only at ho hl
 haveI:Kn (Ok12 s):=⟨ho⟩
 haveI:Kn (Wk12 s):=⟨ho.wk⟩
 haveI:Kn (out.length≤1000000):=⟨hl⟩
 haveI:Kn (Fit ds):=⟨hf⟩
 refine Con.walk good fn_pen_Start (by simp) ?_
 unfold s_pen_Start
 simp only [argsE,pnB,pnD]
 repeat' (with_reducible first|apply Wx.h|refine Wb.h fun K hK=>?_|(refine hK _ ?_;clear hK K)|(apply wT;assumption)|(apply wF;assumption)|(apply Wy.h;kernel_rfl)|apply Wq.h<;>intro h<;>try (exfalso;omega)|apply Wu.h<;>intro h<;>try simp only [h]|((fail_if_success apply Wz.h);first|simp (disch:=omega) only [↓LD,LA,loadA_rf,seval]|(apply And.intro;omega)|simp only [D.int,D.bool]))
 all_goals exact end1 rfl rfl (by kernel_rfl) .f (hQ _ _ (by simp only [startP,ne_eq, *,not_false_eq_true,not_true_eq_false,↓reduceIte,or_true,true_or,or_false,false_or,or_self,Bool.false_eq_true,Bool.true_eq_false,and_true,true_and,and_false,false_and]<;>rfl) (by simp only [startP,ne_eq, *,not_false_eq_true,not_true_eq_false,↓reduceIte,or_true,true_or,or_false,false_or,or_self,Bool.false_eq_true,Bool.true_eq_false,and_true,true_and,and_false,false_and]<;>rfl))
theorem readyR_gt {s:S12}(h:Ok12 s)(hn:(readyR s).length≠0):0≤gt (readyR s) 0∧gt (readyR s) 0<s.nodes.length∧0≤(gt s.nodes (gt (readyR s) 0).toNat).tr∧(gt s.nodes (gt (readyR s) 0).toNat).tr≤5:=by
 have hm:=gt_mem (l:=readyR s) (k:=0) (by omega)
 have h1:=readyR_in hm
 have h2:=rdy_pos h1.2.2.2.2
 have h3:=h.tr _ (gt_mem (l:=s.nodes) (k:=(gt (readyR s) 0).toNat) (by omega))
 exact ⟨by omega,h1.1,h3.1,h3.2⟩
def tri (x:Int × Int × Int):List D:=[D.int x.1,D.int x.2.1,D.int x.2.2]
def beginP (p:Pn):(Int × Int × Int) × Pn :=
 if openP p.s≠0 then ((0,0,openP p.s),p) else if ((readyR p.s).length:Int)=0 then ((0,0,3),p)
 else if (writeP p ⟨0,0,0,2,gt (readyR p.s) 0,(gt p.s.nodes (gt (readyR p.s) 0).toNat).tr+1,[],[],[]⟩).1≠0 then ((0,0,(writeP p ⟨0,0,0,2,gt (readyR p.s) 0,(gt p.s.nodes (gt (readyR p.s) 0).toNat).tr+1,[],[],[]⟩).1),(writeP p ⟨0,0,0,2,gt (readyR p.s) 0,(gt p.s.nodes (gt (readyR p.s) 0).toNat).tr+1,[],[],[]⟩).2)
 else ((gt (readyR p.s) 0,(gt p.s.nodes (gt (readyR p.s) 0).toNat).tr+1,0),(writeP p ⟨0,0,0,2,gt (readyR p.s) 0,(gt p.s.nodes (gt (readyR p.s) 0).toNat).tr+1,[],[],[]⟩).2)
theorem c_pen_Begin (p:Pn)(ho:Ok12 p.s)(hl:p.out.length≤1000000):Con Tryz.prog 152 [.pt 0 0] [pnB p] fun r H'=>r = .tp (tri (beginP p).1)∧H'=[pnB (beginP p).2]:=by
 obtain ⟨s,ver,now,out⟩:=p
 suffices hh:∀ Q:D→List Row→Prop,(∀ r H',r = .tp (tri (beginP ⟨s,ver,now,out⟩).1)→H'=[pnB (beginP ⟨s,ver,now,out⟩).2]→Q r H')→Con Tryz.prog 152 [.pt 0 0] [pnB ⟨s,ver,now,out⟩] Q from hh _ fun _ _ h1 h2=>⟨h1,h2⟩
 intro Q hQ
 dsimp only at ho hl
 haveI:Kn (Ok12 s):=⟨ho⟩
 haveI:Kn (Wk12 s):=⟨ho.wk⟩
 haveI:Kn (out.length≤1000000):=⟨hl⟩
 have hg:=fun h=>readyR_gt ho h
 refine Con.walk good fn_pen_Begin (by simp) ?_
 unfold s_pen_Begin
 simp only [argsE,pnB,pnD]
 repeat' (with_reducible first|apply Wx.h|refine We.h fun K hK=>?_|refine Wd.h fun K M hK hM=>?_|(refine hK _ _ _ _ ?_;clear hK K;try clear hM M)|(refine hM ?_;clear hM M;try clear hK K)|refine Wb.h fun K hK=>?_|(refine hK _ ?_;clear hK K)|(apply wT;assumption)|(apply wF;assumption)|(apply Wy.h;kernel_rfl)|apply Wq.h<;>intro h<;>try (exfalso;omega)|apply Wu.h<;>intro h<;>try simp only [h]|((fail_if_success apply Wz.h);first|simp (disch:=omega) only [↓LD,LA,loadA_rf,seval,LSt,at1_fNn,len_fNn,Nn.cs]|(apply And.intro;omega)|simp only [D.int,D.bool]))
 all_goals exact end3 rfl rfl rfl rfl rfl rfl (by kernel_rfl) (hQ _ _ (by simp only [beginP,tri,ne_eq, *,not_false_eq_true,not_true_eq_false,↓reduceIte,or_true,true_or,or_false,false_or,or_self,Bool.false_eq_true,Bool.true_eq_false,and_true,true_and,and_false,false_and]<;>rfl) (by simp only [beginP,tri,ne_eq, *,not_false_eq_true,not_true_eq_false,↓reduceIte,or_true,true_or,or_false,false_or,or_self,Bool.false_eq_true,Bool.true_eq_false,and_true,true_and,and_false,false_and]<;>rfl))
def finishP (p:Pn)(node try_:Int)(ok:Bool)(data:Bs):Int × Pn :=
 if openP p.s≠0 then (openP p.s,p) else if node<0 then (1,p) else if (p.s.nodes.length:Int)≤node then (1,p) else if (40:Int)<data.length then (1,p) else if ok=false∧(0:Int)<data.length then (1,p)
 else if ¬ (gt p.s.nodes node.toNat).st=1 then (4,p) else if ¬ (gt p.s.nodes node.toNat).tr=try_ then (4,p)
 else if ok=true then writeP p ⟨0,0,0,3,node,try_,[],data,[]⟩ else writeP p ⟨0,0,0,4,node,try_,[],[],[]⟩
theorem c_pen_Finish (p:Pn)(node:Int)(try_:Int)(ok:Bool)(data:Bs)(ho:Ok12 p.s)(hl:p.out.length≤1000000)(hd:data.length≤1000000):Con Tryz.prog 153 [.pt 0 0,D.int node,D.int try_,D.bool ok,.f (fY data)] [pnB p] fun r H'=>r=D.int (finishP p node try_ ok data).1∧H'=[pnB (finishP p node try_ ok data).2]:=by
 obtain ⟨s,ver,now,out⟩:=p
 suffices hh:∀ Q:D→List Row→Prop,(∀ r H',r=D.int (finishP ⟨s,ver,now,out⟩ node try_ ok data).1→H'=[pnB (finishP ⟨s,ver,now,out⟩ node try_ ok data).2]→Q r H')→Con Tryz.prog 153 [.pt 0 0,D.int node,D.int try_,D.bool ok,.f (fY data)] [pnB ⟨s,ver,now,out⟩] Q from hh _ fun _ _ h1 h2=>⟨h1,h2⟩
 intro Q hQ
 dsimp only at ho hl
 haveI:Kn (Ok12 s):=⟨ho⟩
 haveI:Kn (Wk12 s):=⟨ho.wk⟩
 haveI:Kn (out.length≤1000000):=⟨hl⟩
 haveI:Kn (data.length≤1000000):=⟨hd⟩
 refine Con.walk good fn_pen_Finish (by simp) ?_
 unfold s_pen_Finish
 simp only [argsE,pnB,pnD]
 cases ok
 all_goals
  repeat' (with_reducible first|apply Wx.h|refine We.h fun K hK=>?_|refine Wd.h fun K M hK hM=>?_|(refine hK _ _ _ _ ?_;clear hK K;try clear hM M)|(refine hM ?_;clear hM M;try clear hK K)|refine Wb.h fun K hK=>?_|(refine hK _ ?_;clear hK K)|(apply wT;assumption)|(apply wF;assumption)|(apply Wy.h;kernel_rfl)|apply Wq.h<;>intro h<;>try (exfalso;omega)|apply Wu.h<;>intro h<;>try simp only [h]|((fail_if_success apply Wz.h);first|simp (disch:=omega) only [↓LD,LA,loadA_rf,seval,LSt,at0_fNn,at1_fNn,len_fNn,Nn.cs]|(apply And.intro;omega)|simp only [D.int,D.bool]))
 all_goals exact end1 rfl rfl (by kernel_rfl) .f (hQ _ _ (by simp only [finishP,ne_eq, *,not_false_eq_true,not_true_eq_false,↓reduceIte,or_true,true_or,or_false,false_or,or_self,Bool.false_eq_true,Bool.true_eq_false,and_true,true_and,and_false,false_and]<;>rfl) (by simp only [finishP,ne_eq, *,not_false_eq_true,not_true_eq_false,↓reduceIte,or_true,true_or,or_false,false_or,or_self,Bool.false_eq_true,Bool.true_eq_false,and_true,true_and,and_false,false_and]<;>rfl))
def armP (p:Pn)(name:Bs)(span:Int):Int × Pn :=
 if openP p.s≠0 then (openP p.s,p) else if (!nameB name)=true then (1,p) else if span<1 then (1,p) else if 1048576<span then (1,p) else writeP p ⟨0,0,0,5,0,span,name,[],[]⟩
theorem c_pen_Arm (p:Pn)(name:Bs)(span:Int)(ho:Ok12 p.s)(hl:p.out.length≤1000000)(hd:name.length≤1000000):Con Tryz.prog 154 [.pt 0 0,.f (.v (.string (BB name))),D.int span] [pnB p] fun r H'=>r=D.int (armP p name span).1∧H'=[pnB (armP p name span).2]:=by
 obtain ⟨s,ver,now,out⟩:=p
 suffices hh:∀ Q:D→List Row→Prop,(∀ r H',r=D.int (armP ⟨s,ver,now,out⟩ name span).1→H'=[pnB (armP ⟨s,ver,now,out⟩ name span).2]→Q r H')→Con Tryz.prog 154 [.pt 0 0,.f (.v (.string (BB name))),D.int span] [pnB ⟨s,ver,now,out⟩] Q from hh _ fun _ _ h1 h2=>⟨h1,h2⟩
 intro Q hQ
 dsimp only at ho hl
 haveI:Kn (Ok12 s):=⟨ho⟩
 haveI:Kn (Wk12 s):=⟨ho.wk⟩
 haveI:Kn (out.length≤1000000):=⟨hl⟩
 haveI:Kn (name.length≤1000000):=⟨hd⟩
 refine Con.walk good fn_pen_Arm (by simp) ?_
 unfold s_pen_Arm
 simp only [argsE,pnB,pnD]
 repeat' (with_reducible first|apply Wx.h|refine We.h fun K hK=>?_|refine Wd.h fun K M hK hM=>?_|(refine hK _ _ _ _ ?_;clear hK K;try clear hM M)|(refine hM ?_;clear hM M;try clear hK K)|refine Wb.h fun K hK=>?_|(refine hK _ ?_;clear hK K)|(apply wT;assumption)|(apply wF;assumption)|(apply Wy.h;kernel_rfl)|apply Wq.h<;>intro h<;>try (exfalso;omega)|apply Wu.h<;>intro h<;>try simp only [h]|((fail_if_success apply Wz.h);first|simp (disch:=omega) only [↓LD,LA,loadA_rf,seval]|(apply And.intro;omega)|simp only [D.int,D.bool]))
 all_goals exact end1 rfl rfl (by kernel_rfl) .f (hQ _ _ (by simp only [armP,ne_eq, *,not_false_eq_true,not_true_eq_false,↓reduceIte,or_true,true_or,or_false,false_or,or_self,Bool.false_eq_true,Bool.true_eq_false,and_true,true_and,and_false,false_and]<;>rfl) (by simp only [armP,ne_eq, *,not_false_eq_true,not_true_eq_false,↓reduceIte,or_true,true_or,or_false,false_or,or_self,Bool.false_eq_true,Bool.true_eq_false,and_true,true_and,and_false,false_and]<;>rfl))
def signalP (p:Pn)(name data:Bs):(Bool × Int) × Pn :=
 if p.s.id=0 then ((false,3),p) else if (!nameB name)=true then ((false,1),p) else if (40:Int)<data.length then ((false,1),p) else if hasSg p.s.sgs name=true then ((false,0),p) else if p.s.closed≠0 then ((false,12),p)
 else if (writeP p ⟨0,0,0,7,0,0,name,data,[]⟩).1≠0 then ((false,(writeP p ⟨0,0,0,7,0,0,name,data,[]⟩).1),(writeP p ⟨0,0,0,7,0,0,name,data,[]⟩).2) else ((true,0),(writeP p ⟨0,0,0,7,0,0,name,data,[]⟩).2)
def duo (x:Bool × Int):List D:=[D.bool x.1,D.int x.2]
theorem c_pen_Signal (p:Pn)(name:Bs)(data:Bs)(ho:Ok12 p.s)(hl:p.out.length≤1000000)(hn:name.length≤1000000)(hd:data.length≤1000000):Con Tryz.prog 155 [.pt 0 0,.f (.v (.string (BB name))),.f (fY data)] [pnB p] fun r H'=>r = .tp (duo (signalP p name data).1)∧H'=[pnB (signalP p name data).2]:=by
 obtain ⟨s,ver,now,out⟩:=p
 suffices hh:∀ Q:D→List Row→Prop,(∀ r H',r = .tp (duo (signalP ⟨s,ver,now,out⟩ name data).1)→H'=[pnB (signalP ⟨s,ver,now,out⟩ name data).2]→Q r H')→Con Tryz.prog 155 [.pt 0 0,.f (.v (.string (BB name))),.f (fY data)] [pnB ⟨s,ver,now,out⟩] Q from hh _ fun _ _ h1 h2=>⟨h1,h2⟩
 intro Q hQ
 dsimp only at ho hl
 haveI:Kn (Ok12 s):=⟨ho⟩
 haveI:Kn (Wk12 s):=⟨ho.wk⟩
 haveI:Kn (out.length≤1000000):=⟨hl⟩
 haveI:Kn (name.length≤1000000):=⟨hn⟩
 haveI:Kn (data.length≤1000000):=⟨hd⟩
 refine Con.walk good fn_pen_Signal (by simp) ?_
 unfold s_pen_Signal
 simp only [argsE,pnB,pnD]
 repeat' (with_reducible first|apply Wx.h|refine We.h fun K hK=>?_|refine Wd.h fun K M hK hM=>?_|(refine hK _ _ _ _ ?_;clear hK K;try clear hM M)|(refine hM ?_;clear hM M;try clear hK K)|refine Wb.h fun K hK=>?_|(refine hK _ ?_;clear hK K)|(apply wT;assumption)|(apply wF;assumption)|(apply Wy.h;kernel_rfl)|apply Wq.h<;>intro h<;>try (exfalso;omega)|apply Wu.h<;>intro h<;>try simp only [h]|((fail_if_success apply Wz.h);first|simp (disch:=omega) only [↓LD,LA,loadA_rf,seval]|(apply And.intro;omega)|simp only [D.int,D.bool]))
 all_goals exact end2 rfl rfl rfl rfl (by kernel_rfl) (.tps (.cons .f (.cons .f .nil))) (hQ _ _ (by simp only [signalP,duo,ne_eq, *,not_false_eq_true,not_true_eq_false,↓reduceIte,or_true,true_or,or_false,false_or,or_self,Bool.false_eq_true,Bool.true_eq_false,and_true,true_and,and_false,false_and]<;>rfl) (by first|(unfold signalP;rw [if_pos (by assumption)];try rfl)|simp only [signalP,duo,ne_eq, *,not_false_eq_true,not_true_eq_false,↓reduceIte,or_true,true_or,or_false,false_or,or_self,Bool.false_eq_true,Bool.true_eq_false,and_true,true_and,and_false,false_and]<;>rfl))
def cancelP (p:Pn):Int × Pn:=if openP p.s≠0 then (openP p.s,p) else writeP p ⟨0,0,0,8,0,0,[],[],[]⟩
theorem c_pen_Cancel (p:Pn)(ho:Ok12 p.s)(hl:p.out.length≤1000000):Con Tryz.prog 157 [.pt 0 0] [pnB p] fun r H'=>r=D.int (cancelP p).1∧H'=[pnB (cancelP p).2]:=by
 obtain ⟨s,ver,now,out⟩:=p
 suffices hh:∀ Q:D→List Row→Prop,(∀ r H',r=D.int (cancelP ⟨s,ver,now,out⟩).1→H'=[pnB (cancelP ⟨s,ver,now,out⟩).2]→Q r H')→Con Tryz.prog 157 [.pt 0 0] [pnB ⟨s,ver,now,out⟩] Q from hh _ fun _ _ h1 h2=>⟨h1,h2⟩
 intro Q hQ
 dsimp only at ho hl
 haveI:Kn (Ok12 s):=⟨ho⟩
 haveI:Kn (Wk12 s):=⟨ho.wk⟩
 haveI:Kn (out.length≤1000000):=⟨hl⟩
 refine Con.walk good fn_pen_Cancel (by simp) ?_
 unfold s_pen_Cancel
 simp only [argsE,pnB,pnD]
 repeat' (with_reducible first|apply Wx.h|refine We.h fun K hK=>?_|refine Wd.h fun K M hK hM=>?_|(refine hK _ _ _ _ ?_;clear hK K;try clear hM M)|(refine hM ?_;clear hM M;try clear hK K)|refine Wb.h fun K hK=>?_|(refine hK _ ?_;clear hK K)|(apply wT;assumption)|(apply wF;assumption)|(apply Wy.h;kernel_rfl)|apply Wq.h<;>intro h<;>try (exfalso;omega)|apply Wu.h<;>intro h<;>try simp only [h]|((fail_if_success apply Wz.h);first|simp (disch:=omega) only [↓LD,LA,loadA_rf,seval]|(apply And.intro;omega)|simp only [D.int,D.bool]))
 all_goals exact end1 rfl rfl (by kernel_rfl) .f (hQ _ _ (by simp only [cancelP,ne_eq, *,not_false_eq_true,not_true_eq_false,↓reduceIte,or_true,true_or,or_false,false_or,or_self,Bool.false_eq_true,Bool.true_eq_false,and_true,true_and,and_false,false_and]<;>rfl) (by simp only [cancelP,ne_eq, *,not_false_eq_true,not_true_eq_false,↓reduceIte,or_true,true_or,or_false,false_or,or_self,Bool.false_eq_true,Bool.true_eq_false,and_true,true_and,and_false,false_and]<;>rfl))
def termP (p:Pn):Int × Pn:=if openP p.s≠0 then (openP p.s,p) else writeP p ⟨0,0,0,12,0,0,[],[],[]⟩
theorem c_pen_Terminate (p:Pn)(ho:Ok12 p.s)(hl:p.out.length≤1000000):Con Tryz.prog 159 [.pt 0 0] [pnB p] fun r H'=>r=D.int (termP p).1∧H'=[pnB (termP p).2]:=by
 obtain ⟨s,ver,now,out⟩:=p
 suffices hh:∀ Q:D→List Row→Prop,(∀ r H',r=D.int (termP ⟨s,ver,now,out⟩).1→H'=[pnB (termP ⟨s,ver,now,out⟩).2]→Q r H')→Con Tryz.prog 159 [.pt 0 0] [pnB ⟨s,ver,now,out⟩] Q from hh _ fun _ _ h1 h2=>⟨h1,h2⟩
 intro Q hQ
 dsimp only at ho hl
 haveI:Kn (Ok12 s):=⟨ho⟩
 haveI:Kn (Wk12 s):=⟨ho.wk⟩
 haveI:Kn (out.length≤1000000):=⟨hl⟩
 refine Con.walk good fn_pen_Terminate (by simp) ?_
 unfold s_pen_Terminate
 simp only [argsE,pnB,pnD]
 repeat' (with_reducible first|apply Wx.h|refine We.h fun K hK=>?_|refine Wd.h fun K M hK hM=>?_|(refine hK _ _ _ _ ?_;clear hK K;try clear hM M)|(refine hM ?_;clear hM M;try clear hK K)|refine Wb.h fun K hK=>?_|(refine hK _ ?_;clear hK K)|(apply wT;assumption)|(apply wF;assumption)|(apply Wy.h;kernel_rfl)|apply Wq.h<;>intro h<;>try (exfalso;omega)|apply Wu.h<;>intro h<;>try simp only [h]|((fail_if_success apply Wz.h);first|simp (disch:=omega) only [↓LD,LA,loadA_rf,seval]|(apply And.intro;omega)|simp only [D.int,D.bool]))
 all_goals exact end1 rfl rfl (by kernel_rfl) .f (hQ _ _ (by simp only [termP,ne_eq, *,not_false_eq_true,not_true_eq_false,↓reduceIte,or_true,true_or,or_false,false_or,or_self,Bool.false_eq_true,Bool.true_eq_false,and_true,true_and,and_false,false_and]<;>rfl) (by simp only [termP,ne_eq, *,not_false_eq_true,not_true_eq_false,↓reduceIte,or_true,true_or,or_false,false_or,or_self,Bool.false_eq_true,Bool.true_eq_false,and_true,true_and,and_false,false_and]<;>rfl))
def newE (l:List Ev)(ver now:Int):Int :=
 if (foldR s0 l).1≠0 then 1 else if (!verB ver)=true then 1 else if now<0 then 1 else if 1099511627776<now then 1 else if ver<(foldR s0 l).2.ver then 4 else 0
structure PnOk (b:S12)(p:Pn):Prop where
 base:Ok12 b
 ok:Ok12 p.s
 out:foldR b p.out=(0,p.s)
 fit:∀ e∈p.out,FitV e
theorem foldR_id:∀ {l:List Ev} {s:S12},(foldR s l).1=0→(foldR s l).2.id=s.id+l.length
 | [],s,_=>by simp [foldR]
 | e :: l,s,h=>by
  rw [foldR] at h ⊢
  by_cases a:(applyR s e).1=0
  ·rw [if_pos a] at h ⊢
   have h1:=foldR_id h
   obtain ⟨_,a2,_,_,_,_,_,a8⟩:=applyR_ok a
   rw [h1,a8]
   simp only [List.length_cons]
   omega
  ·rw [if_neg a] at h;exact absurd h a
theorem PnOk.len {b:S12}{p:Pn}(h:PnOk b p):p.out.length≤200:=by
 have h1:=foldR_id (l:=p.out) (s:=b) (by rw [h.out])
 rw [h.out] at h1
 have h2:=h.ok.id
 have h3:=h.base.id
 dsimp only at h1
 omega
theorem fold_snoc {b s t:S12}{l:List Ev}{e:Ev}(h:foldR b l=(0,s))(ha:(applyR s e).1=0)(ht:(applyR s e).2=t):foldR b (l++[e])=(0,t):=by
 rw [foldR_app (by rw [h]),h]
 dsimp only
 rw [foldR,if_pos ha,ht,foldR]
theorem PnOk.snoc {b s t:S12}{ver now:Int}{l:List Ev}{e:Ev}(h:PnOk b ⟨s,ver,now,l⟩)(he:FitV e)(ha:(applyR s e).1=0)(ht:(applyR s e).2=t):PnOk b ⟨t,ver,now,l++[e]⟩ :=
 ⟨h.base,by have:=ok12_apply h.ok he.2.2.2 ha;rw [ht] at this;exact this,fold_snoc h.out ha ht,fun x hx=>by
  rcases List.mem_append.1 hx with hx|hx
  ·exact h.fit x hx
  ·obtain rfl:=List.mem_singleton.1 hx;exact he⟩
theorem fitv0 (p:Pn)(k:Int):FitV (nextP p (ev0 k)):=⟨by simp [nextP,ev0],by simp [nextP,ev0],⟨by simp [nextP,ev0],by simp [nextP,ev0]⟩⟩
theorem writeP_is (p:Pn)(e:Ev):((writeP p e).1≠0∧(writeP p e).2=p) ∨
  ((writeP p e).1=0∧p.s.id<200∧(applyR p.s (nextP p e)).1=0∧endingL (applyR p.s (nextP p e)).2=0∧(writeP p e).2={ p with s:=(applyR p.s (nextP p e)).2,out:=p.out++[nextP p e] }) ∨
  ((writeP p e).1=0∧p.s.id<200∧(applyR p.s (nextP p e)).1=0∧endingL (applyR p.s (nextP p e)).2≠0∧∃ f,f=nextP { p with s:=(applyR p.s (nextP p e)).2 } (ev0 (endingL (applyR p.s (nextP p e)).2))∧(applyR (applyR p.s (nextP p e)).2 f).1=0 ∧
   (writeP p e).2={ p with s:=(applyR (applyR p.s (nextP p e)).2 f).2,out:=p.out++[nextP p e,f] }):=by
 unfold writeP
 by_cases a1:200<p.s.id+1
 ·rw [if_pos a1]
  refine .inl ?_
  split
  ·exact ⟨by assumption,rfl⟩
  ·exact ⟨by simp,rfl⟩
 rw [if_neg a1]
 by_cases a2:(applyR p.s (nextP p e)).1≠0
 ·rw [if_pos a2];exact .inl ⟨a2,rfl⟩
 rw [if_neg a2]
 have a3:=Decidable.not_not.1 a2
 unfold endP
 by_cases a4:endingL (applyR p.s (nextP p e)).2≠0
 ·rw [if_pos a4]
  by_cases a5:200<(applyR p.s (nextP p e)).2.id+1
  ·rw [if_pos a5];exact .inl ⟨by simp,rfl⟩
  rw [if_neg a5]
  by_cases a6:(applyR (applyR p.s (nextP p e)).2 (nextP { p with s:=(applyR p.s (nextP p e)).2 } (ev0 (endingL (applyR p.s (nextP p e)).2)))).1≠0
  ·rw [if_pos a6];exact .inl ⟨a6,rfl⟩
  rw [if_neg a6]
  exact .inr (.inr ⟨rfl,by omega,a3,a4,_,rfl,Decidable.not_not.1 a6,rfl⟩)
 ·rw [if_neg a4]
  exact .inr (.inl ⟨rfl,by omega,a3,Decidable.not_not.1 a4,rfl⟩)
theorem writeP_ok {b:S12}{p:Pn}{e:Ev}(h:PnOk b p)(he:FitV e):PnOk b (writeP p e).2:=by
 obtain ⟨s,ver,now,out⟩:=p
 have hn:FitV (nextP ⟨s,ver,now,out⟩ e):=he
 rcases writeP_is ⟨s,ver,now,out⟩ e with ⟨_,h2⟩|⟨_,_,h2,_,h3⟩|⟨_,_,h2,_,f,hf,h3,h4⟩
 ·rw [h2];exact h
 ·rw [h3];exact h.snoc hn h2 rfl
 ·rw [h4]
  have h1:=(h.snoc hn h2 rfl).snoc (by rw [hf];exact fitv0 _ _) h3 rfl
  rw [List.append_assoc] at h1
  exact h1
theorem fitv_mk {a b c ty node n:Int}{nm dt:Bs}{df:List Nd}(h1:nm.length≤1000000)(h2:dt.length≤1000000)(h3:Fit df):FitV ⟨a,b,c,ty,node,n,nm,dt,df⟩:=⟨h2,h1,h3⟩
theorem fit_nil:Fit []:=⟨by simp,by simp⟩
theorem startP_ok {b:S12}{p:Pn}{ds:List Nd}(h:PnOk b p)(hd:Fit ds):PnOk b (startP p ds).2:=by
 unfold startP
 split
 ·exact h
 ·split
  ·exact h
  ·exact writeP_ok h (fitv_mk (by simp) (by simp) hd)
theorem beginP_ok {b:S12}{p:Pn}(h:PnOk b p):PnOk b (beginP p).2:=by
 unfold beginP
 split
 ·exact h
 ·split
  ·exact h
  ·split<;>exact writeP_ok h (fitv_mk (by simp) (by simp) fit_nil)
theorem finishP_ok {b:S12}{p:Pn}{i t:Int}{ok:Bool}{d:Bs}(h:PnOk b p)(hd:d.length≤1000000):PnOk b (finishP p i t ok d).2:=by
 unfold finishP
 repeat' split
 all_goals first|exact h|exact writeP_ok h (fitv_mk (by simp) hd fit_nil)|exact writeP_ok h (fitv_mk (by simp) (by simp) fit_nil)
theorem armP_ok {b:S12}{p:Pn}{nm:Bs}{t:Int}(h:PnOk b p)(hn:nm.length≤1000000):PnOk b (armP p nm t).2:=by
 unfold armP
 repeat' split
 all_goals first|exact h|exact writeP_ok h (fitv_mk hn (by simp) fit_nil)
theorem signalP_ok {b:S12}{p:Pn}{nm d:Bs}(h:PnOk b p)(hn:nm.length≤1000000)(hd:d.length≤1000000):PnOk b (signalP p nm d).2:=by
 unfold signalP
 repeat' split
 all_goals first|exact h|exact writeP_ok h (fitv_mk hn hd fit_nil)
theorem cancelP_ok {b:S12}{p:Pn}(h:PnOk b p):PnOk b (cancelP p).2:=by
 unfold cancelP
 split
 ·exact h
 ·exact writeP_ok h (fitv_mk (by simp) (by simp) fit_nil)
theorem termP_ok {b:S12}{p:Pn}(h:PnOk b p):PnOk b (termP p).2:=by
 unfold termP
 split
 ·exact h
 ·exact writeP_ok h (fitv_mk (by simp) (by simp) fit_nil)
theorem turnR_defs {s:S12}{e:Ev}(h:e.ty≠1):(turnR s e).2.defs=s.defs:=by
 unfold turnR nodeR timerR armL fireL signalL cancelL
 rw [if_neg h]
 repeat' split
 all_goals rfl
theorem turnR_tms {s:S12}{e:Ev}(h5:e.ty≠5)(h6:e.ty≠6):(turnR s e).2.tms=s.tms:=by
 unfold turnR nodeR signalL cancelL
 rw [if_neg (show ¬ (e.ty=5∨e.ty=6) by omega)]
 repeat' split
 all_goals rfl
theorem applyR_defs {s:S12}{e:Ev}(hi:s.id≠0)(h:(applyR s e).1=0):(applyR s e).2.defs=s.defs:=by
 obtain ⟨_,_,_,_,_,a6,_,a8⟩:=applyR_ok h
 rw [a8]
 exact turnR_defs (fun hh=>hi (a6.2 hh))
theorem writeP_defs {b:S12}{p:Pn}{e:Ev}(hi:p.s.id≠0)(hp:0≤p.s.id):(writeP p e).2.s.defs=p.s.defs:=by
 rcases writeP_is p e with ⟨_,h2⟩|⟨_,_,h2,_,h3⟩|⟨_,_,h2,_,f,hf,h3,h4⟩
 ·rw [h2]
 ·rw [h3];exact applyR_defs hi h2
 ·rw [h4]
  have h5:=applyR_defs hi h2
  obtain ⟨_,a2,_,_,_,_,_,a8⟩:=applyR_ok h2
  have h6:=applyR_defs (s:=(applyR p.s (nextP p e)).2) (e:=f) (by rw [a8];dsimp only;omega) h3
  dsimp only
  rw [h6,h5]
theorem writeP_len {b:S12}{p:Pn}{e:Ev}(h:PnOk b p)(he:FitV e)(hi:p.s.id≠0):(writeP p e).2.s.nodes.length=p.s.nodes.length:=by
 have h1:=(writeP_ok h he).ok.len
 rw [h1,writeP_defs (b:=b) hi h.ok.id.1,h.ok.len]
def unf (l:List Tm):Nat:=l.countP fun x=>!x.fired
theorem unf_set {l:List Tm}{j:Nat}(hj:j<l.length)(hf:(gt l j).fired=false):unf (l.set j { gt l j with fired:=true })<unf l:=by
 have hg:=gt_eq hj
 have hc:=List.countP_set (p:=fun x:Tm=>!x.fired) (l:=l) (i:=j) (a:={ gt l j with fired:=true }) hj
 have hp:(!l[j].fired)=true:=by rw [←hg,hf];try rfl
 have hpos:0<l.countP fun x=>!x.fired:=List.countP_pos_iff.2 ⟨l[j],List.getElem_mem hj,hp⟩
 unfold unf
 rw [hc]
 simp only [hp,Bool.not_true,if_true]
 simp
 omega
theorem fire_unf {s:S12}{e:Ev}(h6:e.ty=6)(h:(turnR s e).1=0):unf (turnR s e).2.tms<unf s.tms:=by
 unfold turnR timerR fireL at h ⊢
 rw [if_neg (by omega),if_neg (by omega),if_pos (.inr h6),if_neg (by omega)] at h ⊢
 by_cases a1:tmI s.tms e.name<0
 ·rw [if_pos a1] at h;cases h
 rw [if_neg a1] at h ⊢
 by_cases a2:(gt s.tms (tmI s.tms e.name).toNat).fired=true∨e.time<(gt s.tms (tmI s.tms e.name).toNat).due
 ·rw [if_pos a2] at h;cases h
 rw [if_neg a2]
 have:=tmI_lt s.tms e.name
 exact unf_set (by omega) (by cases hb:(gt s.tms (tmI s.tms e.name).toNat).fired with|false=>rfl|true=>exact absurd (.inl hb) a2)
theorem writeP_unf {p:Pn}{nm:Bs}(h:(writeP p ⟨0,0,0,6,0,0,nm,[],[]⟩).1=0):unf (writeP p ⟨0,0,0,6,0,0,nm,[],[]⟩).2.s.tms<unf p.s.tms:=by
 rcases writeP_is p ⟨0,0,0,6,0,0,nm,[],[]⟩ with ⟨h1,h2⟩|⟨_,_,h2,_,h3⟩|⟨_,_,h2,_,f,hf,h3,h4⟩
 ·exact absurd h h1
 ·obtain ⟨_,_,_,_,_,_,a7,a8⟩:=applyR_ok h2
  rw [h3,a8]
  exact fire_unf rfl a7
 ·obtain ⟨_,_,_,_,_,_,a7,a8⟩:=applyR_ok h2
  obtain ⟨_,_,_,_,_,_,b7,b8⟩:=applyR_ok h3
  have hk:=endingL_in (applyR p.s (nextP p ⟨0,0,0,6,0,0,nm,[],[]⟩)).2
  have ht:f.ty=endingL (applyR p.s (nextP p ⟨0,0,0,6,0,0,nm,[],[]⟩)).2:=by rw [hf];try rfl
  rw [h4,b8]
  dsimp only
  rw [turnR_tms (by omega) (by omega),a8]
  exact fire_unf rfl a7
def lateN (now:Int):Nat→Nat→Pn→Int→Int × Pn × Bool
 | 0,_,p,n=>(n,p,false)
 | k+1,i,p,n =>
  if p.s.closed≠0 then (n,p,false)
  else if (gt p.s.nodes i).st≠1 then lateN now k (i+1) p n
  else if now<(gt p.s.nodes i).due then lateN now k (i+1) p n
  else if (writeP p ⟨0,0,0,4,i,(gt p.s.nodes i).tr,[],[],[]⟩).1≠0 then (n,(writeP p ⟨0,0,0,4,i,(gt p.s.nodes i).tr,[],[],[]⟩).2,true)
  else lateN now k (i+1) (writeP p ⟨0,0,0,4,i,(gt p.s.nodes i).tr,[],[],[]⟩).2 (n+1)
def strLt (a b:Bs):Bool:=Op.bytesLess (BB a).toList (BB b).toList
def befT (x y:Tm):Bool:=decide (x.due<y.due)||(decide (x.due=y.due)&&strLt x.name y.name)
def pickF (now:Int)(tms:List Tm):Nat→Int→List Tm→Int
 | _,k,[]=>k
 | i,k,x :: l =>
  if x.fired=true then pickF now tms (i+1) k l else if now<x.due then pickF now tms (i+1) k l
  else if k<0∨befT x (gt tms k.toNat)=true then pickF now tms (i+1) i l else pickF now tms (i+1) k l
def lateT (now:Int):Nat→Pn→Int→Int × Pn
 | 0,p,n=>(n,p)
 | f+1,p,n =>
  if p.s.closed≠0 then (n,p) else if pickF now p.s.tms 0 (-1) p.s.tms<0 then (n,p)
  else if (writeP p ⟨0,0,0,6,0,0,(gt p.s.tms (pickF now p.s.tms 0 (-1) p.s.tms).toNat).name,[],[]⟩).1≠0 then (n,(writeP p ⟨0,0,0,6,0,0,(gt p.s.tms (pickF now p.s.tms 0 (-1) p.s.tms).toNat).name,[],[]⟩).2)
  else lateT now f (writeP p ⟨0,0,0,6,0,0,(gt p.s.tms (pickF now p.s.tms 0 (-1) p.s.tms).toNat).name,[],[]⟩).2 (n+1)
def lateP (p:Pn):Int × Pn :=
 if (lateN (max p.now p.s.time) p.s.nodes.length 0 p 0).2.2=true then ((lateN (max p.now p.s.time) p.s.nodes.length 0 p 0).1,(lateN (max p.now p.s.time) p.s.nodes.length 0 p 0).2.1)
 else lateT (max p.now p.s.time) (unf (lateN (max p.now p.s.time) p.s.nodes.length 0 p 0).2.1.s.tms+1) (lateN (max p.now p.s.time) p.s.nodes.length 0 p 0).2.1 (lateN (max p.now p.s.time) p.s.nodes.length 0 p 0).1
theorem pickF_in (now:Int)(tms:List Tm):∀ (i:Nat) (k:Int) (l:List Tm),k<i+l.length→pickF now tms i k l<i+l.length
 | _,_,[],h=>h
 | i,k,x :: l,h=>by
  rw [pickF]
  simp only [List.length_cons] at h ⊢
  split
  ·have:=pickF_in now tms (i+1) k l (by omega);omega
  ·split
   ·have:=pickF_in now tms (i+1) k l (by omega);omega
   ·split
    ·have:=pickF_in now tms (i+1) i l (by omega);omega
    ·have:=pickF_in now tms (i+1) k l (by omega);omega
theorem lateN_ok {b:S12}{now:Int}:∀ {k i:Nat} {p:Pn} {n:Int},PnOk b p→PnOk b (lateN now k i p n).2.1
 | 0,_,_,_,h=>h
 | k+1,i,p,n,h=>by
  rw [lateN]
  have hw:=writeP_ok (e:=⟨0,0,0,4,i,(gt p.s.nodes i).tr,[],[],[]⟩) h (fitv_mk (by simp) (by simp) fit_nil)
  split
  ·exact h
  ·split
   ·exact lateN_ok h
   ·split
    ·exact lateN_ok h
    ·split
     ·exact hw
     ·exact lateN_ok hw
theorem lateT_ok {b:S12}{now:Int}:∀ {f:Nat} {p:Pn} {n:Int},PnOk b p→PnOk b (lateT now f p n).2
 | 0,_,_,h=>h
 | f+1,p,n,h=>by
  rw [lateT]
  split
  ·exact h
  ·split
   ·exact h
   ·have hk:=pickF_in now p.s.tms 0 (-1) p.s.tms (by omega)
    have hn:=h.ok.tname _ (gt_mem (l:=p.s.tms) (k:=(pickF now p.s.tms 0 (-1) p.s.tms).toNat) (by omega))
    have hw:=writeP_ok (e:=⟨0,0,0,6,0,0,(gt p.s.tms (pickF now p.s.tms 0 (-1) p.s.tms).toNat).name,[],[]⟩) h (fitv_mk (by omega) (by simp) fit_nil)
    split
    ·exact hw
    ·exact lateT_ok hw
theorem lateP_ok {b:S12}{p:Pn}(h:PnOk b p):PnOk b (lateP p).2:=by
 unfold lateP
 split
 ·exact lateN_ok h
 ·exact lateT_ok (lateN_ok h)
theorem HS.cutK {P:Program}{n:Nat}{c:SCode}{s:St}{Q:Out→St→Prop}(i:Nat){α:Type}(st:α→St)(p:α→Prop)
  (h1:∀ K:Out→St→Prop,(∀ y,p y→∀ s',View P n s' (st y)→K (.exit i) s')→(∀ s',Q .ret s'→K .ret s')→HS P n c s K) (h2:∀ y,p y→∀ s',View P n s' (st y)→Q (.exit i) s'):HS P n c s Q:=h1 Q h2 fun _ h=>h
theorem lateT_fuel {now:Int}:∀ {f g:Nat} {p:Pn} {n:Int},unf p.s.tms<f→unf p.s.tms<g→lateT now f p n=lateT now g p n
 | 0,_,_,_,h,_=>absurd h (by omega)
 | _,0,_,_,_,h=>absurd h (by omega)
 | f+1,g+1,p,n,hf,hg=>by
  rw [lateT,lateT]
  by_cases a1:p.s.closed≠0
  ·rw [if_pos a1,if_pos a1]
  rw [if_neg a1,if_neg a1]
  by_cases a2:pickF now p.s.tms 0 (-1) p.s.tms<0
  ·rw [if_pos a2,if_pos a2]
  rw [if_neg a2,if_neg a2]
  by_cases a3:(writeP p ⟨0,0,0,6,0,0,(gt p.s.tms (pickF now p.s.tms 0 (-1) p.s.tms).toNat).name,[],[]⟩).1≠0
  ·rw [if_pos a3,if_pos a3]
  rw [if_neg a3,if_neg a3]
  have:=writeP_unf (Decidable.not_not.1 a3)
  exact lateT_fuel (by omega) (by omega)
set_option maxRecDepth 100000 in
theorem c_pen_Late (b:S12)(p:Pn)(h:PnOk b p):Con Tryz.prog 160 [.pt 0 0] [pnB p] fun r H'=>r=D.int (lateP p).1∧H'=[pnB (lateP p).2]:=by
  suffices hh:∀ Q:D→List Row→Prop,(∀ r H',r=D.int (lateP p).1→H'=[pnB (lateP p).2]→Q r H')→Con Tryz.prog 160 [.pt 0 0] [pnB p] Q from hh _ fun _ _ h1 h2=>⟨h1,h2⟩
  intro Q hQ
  unfold lateP at hQ
  refine Con.walk good fn_pen_Late (by simp) ?_
  unfold s_pen_Late
  simp only [argsE,pnB,pnD]
  have hnl:=h.ok.wk.fit.fit.nodes
  generalize hN:max p.now p.s.time=N at hQ
  repeat' (with_reducible first|apply Wx.h|refine We.h fun K hK=>?_|refine Wd.h fun K M hK hM=>?_|(refine hK _ _ _ _ ?_;clear hK K;try clear hM M)|(refine hM ?_;clear hM M;try clear hK K)|refine Wb.h fun K hK=>?_|(refine hK _ ?_;clear hK K)|(apply wT;assumption)|(apply wF;assumption)|(apply Wy.h;kernel_rfl)|apply Wq.h<;>intro h<;>try (exfalso;omega)|apply Wu.h<;>intro h<;>try simp only [h]|((fail_if_success apply Wz.h);first|simp (disch:=omega) only [↓LD,LA,loadA_rf,seval,hN]|(apply And.intro;omega)|simp only [D.int,D.bool]))
  refine HS.cutK 0 (fun x:Pn × Int=>⟨frm 163 [(0,.pt 0 0),(3,D.int x.2),(4,D.int N)],[pnB x.1],[]⟩) (fun x=>PnOk b x.1∧0≤x.2∧x.2≤1000000∧lateN N p.s.nodes.length 0 p 0=(x.2,x.1,false)) ?_ ?_
  · intro K hx hr
    refine HS.loopG [0,3,4,5] (fun x:Nat × Pn × Int=>⟨frm 163 [(0,.pt 0 0),(3,D.int x.2.2),(4,D.int N),(5,D.int x.1)],[pnB x.2.1],[]⟩)
      (fun x=>x.1≤p.s.nodes.length∧x.2.1.s.nodes.length=p.s.nodes.length∧PnOk b x.2.1∧0≤x.2.2∧x.2.2≤x.1∧lateN N p.s.nodes.length 0 p 0=lateN N (p.s.nodes.length-x.1) x.1 x.2.1 x.2.2) (fun x=>p.s.nodes.length-x.1) (0,p,0) (by kernel_rfl) ⟨Nat.zero_le _,rfl,h,by simp,by simp,rfl⟩ ?_
    rintro ⟨i,⟨s,ver,now,out⟩,n⟩ ⟨hi,hl,ho,hn0,hn1,hF⟩
    dsimp only at hi hl ho hn0 hn1 hF
    by_cases hil:i<p.s.nodes.length
    · rw [show p.s.nodes.length-i=(p.s.nodes.length-(i+1))+1 by omega,lateN] at hF
      dsimp only at hF
      have hok:=ho.ok
      have hid:s.id≠0:=fun hh=>by have:=hok.wk.zero.2 hh;dsimp only at this;omega
      have hlen:=ho.len
      haveI:Kn (Ok12 s):=⟨hok⟩
      haveI:Kn (out.length≤1000000):=⟨by dsimp only at hlen;omega⟩
      have hw:=writeP_ok (e:=⟨0,0,0,4,i,(gt s.nodes i).tr,[],[],[]⟩) ho (fitv_mk (by simp) (by simp) fit_nil)
      have hwl:=writeP_len (e:=⟨0,0,0,4,i,(gt s.nodes i).tr,[],[],[]⟩) ho (fitv_mk (by simp) (by simp) fit_nil) hid
      repeat' (with_reducible first|apply Wx.h|refine Wb.h fun K hK=>?_|(refine hK _ ?_;clear hK K)|(apply wT;assumption)|(apply wF;assumption)|(apply Wy.h;kernel_rfl)|apply Wq.h<;>intro h<;>try (exfalso;omega)|apply Wu.h<;>intro h<;>try simp only [h]|((fail_if_success apply Wz.h);first|simp (disch:=omega) only [↓LD,LA,loadA_rf,seval,LSt,pnB,pnD,load_fNn,len_fNn,Nn.cs,-loadA_rf,List.map_cons,List.map_nil]|(apply And.intro;omega)|simp only [D.int,D.bool]))
      · rw [if_neg (fun hh=>hh (show s.closed=0 by assumption)),if_neg (fun hh=>hh (by assumption)),if_pos (by assumption)] at hF
        exact Next.mk (i+1,⟨s,ver,now,out⟩,n) (by kernel_rfl) ⟨by omega,hl,ho,hn0,by dsimp only;omega,hF⟩ (by dsimp only;omega)
      · have hz:(writeP ⟨s,ver,now,out⟩ ⟨0,0,0,4,i,(gt s.nodes i).tr,[],[],[]⟩).1=0:=by assumption
        rw [if_neg (fun hh=>hh (show s.closed=0 by assumption)),if_neg (fun hh=>hh (by assumption)),if_neg (by assumption),if_neg (fun hh=>hh hz)] at hF
        exact Next.mk (i+1,(writeP ⟨s,ver,now,out⟩ ⟨0,0,0,4,i,(gt s.nodes i).tr,[],[],[]⟩).2,n+1) (by kernel_rfl) ⟨by omega,hwl.trans hl,hw,by dsimp only;omega,by dsimp only;omega,hF⟩ (by dsimp only;omega)
      · have hz:(writeP ⟨s,ver,now,out⟩ ⟨0,0,0,4,i,(gt s.nodes i).tr,[],[],[]⟩).1≠0:=by assumption
        rw [if_neg (fun hh=>hh (show s.closed=0 by assumption)),if_neg (fun hh=>hh (by assumption)),if_neg (by assumption),if_pos hz] at hF
        rw [hF,if_pos rfl] at hQ
        refine hr _ ?_
        repeat' (with_reducible first|apply Wx.h|refine Wb.h fun K hK=>?_|(refine hK _ ?_;clear hK K)|(apply wT;assumption)|(apply wF;assumption)|(apply Wy.h;kernel_rfl)|apply Wq.h<;>intro h<;>try (exfalso;omega)|apply Wu.h<;>intro h<;>try simp only [h]|((fail_if_success apply Wz.h);first|simp (disch:=omega) only [↓LD,LA,loadA_rf,seval]|(apply And.intro;omega)|simp only [D.int,D.bool]))
        exact end1 rfl rfl (by kernel_rfl) .f (hQ _ _ rfl rfl)
      · rw [if_neg (fun hh=>hh (show s.closed=0 by assumption)),if_pos (by assumption)] at hF
        exact Next.mk (i+1,⟨s,ver,now,out⟩,n) (by kernel_rfl) ⟨by omega,hl,ho,hn0,by dsimp only;omega,hF⟩ (by dsimp only;omega)
      · rw [if_pos (show s.closed≠0 by assumption)] at hF
        exact hx (⟨s,ver,now,out⟩,n) ⟨ho,hn0,by dsimp only;omega,hF⟩ _ (View.sweep (keep:=[0,3,4]) (by kernel_rfl))
    · rw [show p.s.nodes.length-i=0 by omega,lateN] at hF
      repeat' (with_reducible first|apply Wx.h|refine Wb.h fun K hK=>?_|(refine hK _ ?_;clear hK K)|(apply wT;assumption)|(apply wF;assumption)|(apply Wy.h;kernel_rfl)|apply Wq.h<;>intro h<;>try (exfalso;omega)|apply Wu.h<;>intro h<;>try simp only [h]|((fail_if_success apply Wz.h);first|simp (disch:=omega) only [↓LD,LA,loadA_rf,seval,LSt,pnB,pnD]|(apply And.intro;omega)|simp only [D.int,D.bool]))
      exact hx (⟨s,ver,now,out⟩,n) ⟨ho,hn0,by dsimp only;omega,hF⟩ _ (View.sweep (keep:=[0,3,4]) (by kernel_rfl))
  · rintro ⟨q,n⟩ ⟨ho,hn0,hn1,hF⟩ s' hv
    refine blockQ_hit ?_
    refine thenQ_n ?_
    refine HS.view hv ?_
    clear hv
    dsimp only at ho hn0 hn1 hF ⊢
    rw [hF,if_neg (by simp)] at hQ
    dsimp only at hQ
    clear hF
    generalize hLL:lateT N (unf q.s.tms+1) q n=LL at hQ
    repeat' (with_reducible first|apply Wx.h|refine Wb.h fun K hK=>?_|(refine hK _ ?_;clear hK K)|(apply wT;assumption)|(apply wF;assumption)|(apply Wy.h;kernel_rfl)|apply Wq.h<;>intro h<;>try (exfalso;omega)|apply Wu.h<;>intro h<;>try simp only [h]|((fail_if_success apply Wz.h);first|simp (disch:=omega) only [↓LD,LA,loadA_rf,seval]|(apply And.intro;omega)|simp only [D.int,D.bool]))
    have hu0:=ho.ok.tms
    have hu1:∀ l:List Tm,unf l≤l.length:=fun l=>List.countP_le_length
    have hu2:=hu1 q.s.tms
    refine HS.loopG [0,3,4] (fun x:Pn × Int=>⟨frm 163 [(0,.pt 0 0),(3,D.int x.2),(4,D.int N)],[pnB x.1],[]⟩)
      (fun x=>PnOk b x.1∧0≤x.2∧x.2+unf x.1.s.tms≤2000000∧LL=lateT N (unf x.1.s.tms+1) x.1 x.2) (fun x=>unf x.1.s.tms) (q,n) (by kernel_rfl) ⟨ho,hn0,by dsimp only;omega,hLL.symm⟩ ?_
    clear ho hn0 hn1 hu0 hu2 hLL
    rintro ⟨⟨s,ver,now,out⟩,m⟩ ⟨ho,hn0,hn1,hF⟩
    dsimp only at ho hn0 hn1 hF
    have hok:=ho.ok
    dsimp only at hok
    have hlen:=ho.len
    haveI:Kn (Ok12 s):=⟨hok⟩
    haveI:Kn (out.length≤1000000):=⟨by dsimp only at hlen;omega⟩
    have htl:=hok.tms
    rw [lateT] at hF
    repeat' (with_reducible first|apply Wx.h|refine Wb.h fun K hK=>?_|(refine hK _ ?_;clear hK K)|(apply wT;assumption)|(apply wF;assumption)|(apply Wy.h;kernel_rfl)|apply Wq.h<;>intro h<;>try (exfalso;omega)|apply Wu.h<;>intro h<;>try simp only [h]|((fail_if_success apply Wz.h);first|simp (disch:=omega) only [↓LD,LA,loadA_rf,seval,LSt,pnB,pnD]|(apply And.intro;omega)|simp only [D.int,D.bool]))
    rotate_left
    · rw [if_pos (show s.closed≠0 by assumption)] at hF
      rw [hF] at hQ
      exact end1 rfl rfl (by kernel_rfl) .f (hQ _ _ rfl rfl)
    have hcl:s.closed=0:=by assumption
    rw [if_neg (fun hh=>hh hcl)] at hF
    refine HS.loopG [0,3,4,7,8] (fun x:Nat × Int=>⟨frm 163 [(0,.pt 0 0),(3,D.int m),(4,D.int N),(7,D.int x.2),(8,D.int x.1)],[pnB ⟨s,ver,now,out⟩],[]⟩)
      (fun x=>x.1≤s.tms.length ∧ -1≤x.2∧x.2<x.1∧pickF N s.tms 0 (-1) s.tms=pickF N s.tms x.1 x.2 (s.tms.drop x.1)) (fun x=>s.tms.length-x.1) (0,-1) (by kernel_rfl) ⟨Nat.zero_le _,by simp,by simp,rfl⟩ ?_
    rintro ⟨j,k⟩ ⟨hj,hk0,hk1,hP⟩
    dsimp only at hj hk0 hk1 hP
    by_cases hjl:j<s.tms.length
    · rw [drop_gt hjl,pickF] at hP
      have hbT:befT (gt s.tms j) (gt s.tms k.toNat)=true↔(gt s.tms j).due<(gt s.tms k.toNat).due∨((gt s.tms j).due=(gt s.tms k.toNat).due∧Op.bytesLess (BB (gt s.tms j).name).toList (BB (gt s.tms k.toNat).name).toList=true):=by simp only [befT,strLt,Bool.or_eq_true,Bool.and_eq_true,decide_eq_true_eq]
      repeat' (with_reducible first|apply Wx.h|refine We.h fun K hK=>?_|refine Wd.h fun K M hK hM=>?_|(refine hK _ _ _ _ ?_;clear hK K;try clear hM M)|(refine hM ?_;clear hM M;try clear hK K)|refine Wb.h fun K hK=>?_|(refine hK _ ?_;clear hK K)|(apply wT;assumption)|(apply wF;assumption)|(apply Wy.h;kernel_rfl)|apply Wq.h<;>intro h<;>try (exfalso;omega)|apply Wu.h<;>intro h<;>try simp only [h]|((fail_if_success apply Wz.h);first|simp (disch:=omega) only [↓LD,LA,loadA_rf,seval,LSt,pnB,pnD,load_fTm,len_fTm,at0_fTm,at1_fTm,Tm.cs,-loadA_rf,List.map_cons,List.map_nil]|(apply And.intro;omega)|simp only [D.int,D.bool]))
      all_goals first
        | (rw [if_pos (show (gt s.tms j).fired=true by assumption)] at hP
           exact Next.mk (j+1,k) (by kernel_rfl) ⟨by dsimp only;omega,hk0,by dsimp only;omega,hP⟩ (by dsimp only;omega))
        | (rw [if_neg (by rw [show (gt s.tms j).fired=false by assumption];simp),if_pos (show N<(gt s.tms j).due by assumption)] at hP
           exact Next.mk (j+1,k) (by kernel_rfl) ⟨by dsimp only;omega,hk0,by dsimp only;omega,hP⟩ (by dsimp only;omega))
        | (rw [if_neg (by rw [show (gt s.tms j).fired=false by assumption];simp),if_neg (show ¬ N<(gt s.tms j).due by assumption),if_pos (.inl (show k<0 by assumption))] at hP
           exact Next.mk (j+1,(j:Int)) (by kernel_rfl) ⟨by dsimp only;omega,by dsimp only;omega,by dsimp only;omega,hP⟩ (by dsimp only;omega))
        | (rw [if_neg (by rw [show (gt s.tms j).fired=false by assumption];simp),if_neg (show ¬ N<(gt s.tms j).due by assumption),if_pos (.inr (hbT.2 (.inl (show (gt s.tms j).due<(gt s.tms k.toNat).due by assumption))))] at hP
           exact Next.mk (j+1,(j:Int)) (by kernel_rfl) ⟨by dsimp only;omega,by dsimp only;omega,by dsimp only;omega,hP⟩ (by dsimp only;omega))
        | (rw [if_neg (by rw [show (gt s.tms j).fired=false by assumption];simp),if_neg (show ¬ N<(gt s.tms j).due by assumption),if_pos (.inr (hbT.2 (.inr ⟨show (gt s.tms j).due=(gt s.tms k.toNat).due by assumption,show Op.bytesLess (BB (gt s.tms j).name).toList (BB (gt s.tms k.toNat).name).toList=true by assumption⟩)))] at hP
           exact Next.mk (j+1,(j:Int)) (by kernel_rfl) ⟨by dsimp only;omega,by dsimp only;omega,by dsimp only;omega,hP⟩ (by dsimp only;omega))
        | (rw [if_neg (by rw [show (gt s.tms j).fired=false by assumption];simp),if_neg (show ¬ N<(gt s.tms j).due by assumption),if_neg (fun hh=>hh.elim (show ¬ k<0 by assumption) (fun hb=>(hbT.1 hb).elim (show ¬ (gt s.tms j).due<(gt s.tms k.toNat).due by assumption) (fun he=>(show ¬ (gt s.tms j).due=(gt s.tms k.toNat).due by assumption) he.1)))] at hP
           exact Next.mk (j+1,k) (by kernel_rfl) ⟨by dsimp only;omega,hk0,by dsimp only;omega,hP⟩ (by dsimp only;omega))
        | (rw [if_neg (by rw [show (gt s.tms j).fired=false by assumption];simp),if_neg (show ¬ N<(gt s.tms j).due by assumption),if_neg (fun hh=>hh.elim (show ¬ k<0 by assumption) (fun hb=>(hbT.1 hb).elim (show ¬ (gt s.tms j).due<(gt s.tms k.toNat).due by assumption) (fun he=>(show ¬ Op.bytesLess (BB (gt s.tms j).name).toList (BB (gt s.tms k.toNat).name).toList=true by assumption) he.2)))] at hP
           exact Next.mk (j+1,k) (by kernel_rfl) ⟨by dsimp only;omega,hk0,by dsimp only;omega,hP⟩ (by dsimp only;omega))
    · rw [List.drop_of_length_le (by omega),pickF] at hP
      rw [hP] at hF
      have hn16:0≤k→(gt s.tms k.toNat).name.length≤16:=fun hk=>hok.tname _ (gt_mem (l:=s.tms) (k:=k.toNat) (by omega))
      by_cases hkz:k<0
      · repeat' (with_reducible first|apply Wx.h|refine We.h fun K hK=>?_|refine Wd.h fun K M hK hM=>?_|(refine hK _ _ _ _ ?_;clear hK K;try clear hM M)|(refine hM ?_;clear hM M;try clear hK K)|refine Wb.h fun K hK=>?_|(refine hK _ ?_;clear hK K)|(apply wT;assumption)|(apply wF;assumption)|(apply Wy.h;kernel_rfl)|apply Wq.h<;>intro h<;>try (exfalso;omega)|apply Wu.h<;>intro h<;>try simp only [h]|((fail_if_success apply Wz.h);first|simp (disch:=omega) only [↓LD,LA,loadA_rf,seval,LSt,pnB,pnD,load_fTm,len_fTm,at0_fTm,at1_fTm,Tm.cs,-loadA_rf,List.map_cons,List.map_nil]|(apply And.intro;omega)|simp only [D.int,D.bool]))
        rw [if_pos hkz] at hF
        rw [hF] at hQ
        exact end1 rfl rfl (by kernel_rfl) .f (hQ _ _ rfl rfl)
      rw [if_neg hkz] at hF
      have hn17:=hn16 (by omega)
      haveI:Kn ((gt s.tms k.toNat).name.length≤1000000):=⟨by omega⟩
      have hw:=writeP_ok (e:=⟨0,0,0,6,0,0,(gt s.tms k.toNat).name,[],[]⟩) ho (fitv_mk (by omega) (by simp) fit_nil)
      have hwu:=writeP_unf (p:=⟨s,ver,now,out⟩) (nm:=(gt s.tms k.toNat).name)
      have hu2:=hu1 s.tms
      repeat' (with_reducible first|apply Wx.h|refine We.h fun K hK=>?_|refine Wd.h fun K M hK hM=>?_|(refine hK _ _ _ _ ?_;clear hK K;try clear hM M)|(refine hM ?_;clear hM M;try clear hK K)|refine Wb.h fun K hK=>?_|(refine hK _ ?_;clear hK K)|(apply wT;assumption)|(apply wF;assumption)|(apply Wy.h;kernel_rfl)|apply Wq.h<;>intro h<;>try (exfalso;omega)|apply Wu.h<;>intro h<;>try simp only [h]|((fail_if_success apply Wz.h);first|simp (disch:=omega) only [↓LD,LA,loadA_rf,seval,LSt,pnB,pnD,load_fTm,len_fTm,at0_fTm,at1_fTm,Tm.cs,-loadA_rf,List.map_cons,List.map_nil]|(apply And.intro;omega)|simp only [D.int,D.bool]))
      · have hz:(writeP ⟨s,ver,now,out⟩ ⟨0,0,0,6,0,0,(gt s.tms k.toNat).name,[],[]⟩).1=0:=by assumption
        have hwu:=hwu hz
        dsimp only at hwu hn1
        rw [if_neg (fun hh=>hh hz)] at hF
        refine Next.mk ((writeP ⟨s,ver,now,out⟩ ⟨0,0,0,6,0,0,(gt s.tms k.toNat).name,[],[]⟩).2,m+1) (by kernel_rfl) ⟨hw,by dsimp only;omega,by dsimp only;omega,?_⟩ (by dsimp only;omega)
        dsimp only
        rw [hF]
        exact lateT_fuel hwu (Nat.lt_succ_self _)
      · have hz:(writeP ⟨s,ver,now,out⟩ ⟨0,0,0,6,0,0,(gt s.tms k.toNat).name,[],[]⟩).1≠0:=by assumption
        rw [if_pos hz] at hF
        rw [hF] at hQ
        exact end1 rfl rfl (by kernel_rfl) .f (hQ _ _ rfl rfl)
instance {s:S12}{ver now:Int}{out:List Ev}{H:List Row}{K:D→List Row→Prop}{ds:List Nd}[ho:Kn (Ok12 s)][hl:Kn (out.length≤1000000)][k1:Kn (Fit ds)] :
  Wa (callW Tryz.prog (.fn 151 []) [.pt 0 0,.f (fG ds)] (.box 118 [.f (.v (.int .i64 s.id)),.f (.v (.int .i64 s.ver)),.f (.v (.int .i64 s.time)),.f (.v (.int .i64 s.closed)),.f (.v (.bool s.cancel)),.f (fG s.defs),.f (fNn s.nodes),.f (fTm s.tms),.f (fSg s.sgs),.f (.v (.int .i64 ver)),.f (.v (.int .i64 now)),.f (fEv out)] :: H) K) (K (.f (.v (.int .i64 (startP ⟨s,ver,now,out⟩ ds).1))) (pnB (startP ⟨s,ver,now,out⟩ ds).2 :: H)):=⟨fun h =>
 callW_own (c_pen_Start ⟨s,ver,now,out⟩ ds ho.h hl.h k1.h) rfl rfl (fun _=>rfl) (fun _=>rfl) (fun _=>rfl) (fun _=>rfl) h⟩
instance {s:S12}{ver now:Int}{out:List Ev}{H:List Row}{K:D→List Row→Prop}  [ho:Kn (Ok12 s)][hl:Kn (out.length≤1000000)] :
  Wa (callW Tryz.prog (.fn 152 []) [.pt 0 0] (.box 118 [.f (.v (.int .i64 s.id)),.f (.v (.int .i64 s.ver)),.f (.v (.int .i64 s.time)),.f (.v (.int .i64 s.closed)),.f (.v (.bool s.cancel)),.f (fG s.defs),.f (fNn s.nodes),.f (fTm s.tms),.f (fSg s.sgs),.f (.v (.int .i64 ver)),.f (.v (.int .i64 now)),.f (fEv out)] :: H) K) (K (.tp [.f (.v (.int .i64 (beginP ⟨s,ver,now,out⟩).1.1)),.f (.v (.int .i64 (beginP ⟨s,ver,now,out⟩).1.2.1)),.f (.v (.int .i64 (beginP ⟨s,ver,now,out⟩).1.2.2))]) (pnB (beginP ⟨s,ver,now,out⟩).2 :: H)):=⟨fun h =>
 callW_own (c_pen_Begin ⟨s,ver,now,out⟩ ho.h hl.h) rfl rfl (fun _=>rfl) (fun _=>rfl) (fun _=>rfl) (fun _=>rfl) h⟩
instance {s:S12}{ver now:Int}{out:List Ev}{H:List Row}{K:Bool→D→List Row→Prop}{i t:Int}{ok:Bool}{d:Bs}[ho:Kn (Ok12 s)][hl:Kn (out.length≤1000000)][k1:Kn (d.length≤1000000)] :
  Wa (callDr Tryz.prog (.fn 153 []) [.pt 0 0,.f (.v (.int .i64 i)),.f (.v (.int .i64 t)),.f (.v (.bool ok)),.f (fY d)] (.box 118 [.f (.v (.int .i64 s.id)),.f (.v (.int .i64 s.ver)),.f (.v (.int .i64 s.time)),.f (.v (.int .i64 s.closed)),.f (.v (.bool s.cancel)),.f (fG s.defs),.f (fNn s.nodes),.f (fTm s.tms),.f (fSg s.sgs),.f (.v (.int .i64 ver)),.f (.v (.int .i64 now)),.f (fEv out)] :: H) K) (K true (.f (.v (.int .i64 (finishP ⟨s,ver,now,out⟩ i t ok d).1))) (pnB (finishP ⟨s,ver,now,out⟩ i t ok d).2 :: H)):=⟨fun h =>
 callDr_own (c_pen_Finish ⟨s,ver,now,out⟩ i t ok d ho.h hl.h k1.h) rfl rfl (fun _=>rfl) (fun _=>rfl) (fun _=>rfl) (fun _=>rfl) h⟩
instance {s:S12}{ver now:Int}{out:List Ev}{H:List Row}{K:Bool→D→List Row→Prop}{nm:Bs}{t:Int}[ho:Kn (Ok12 s)][hl:Kn (out.length≤1000000)][k1:Kn (nm.length≤1000000)] :
  Wa (callDr Tryz.prog (.fn 154 []) [.pt 0 0,.f (.v (.string (BB nm))),.f (.v (.int .i64 t))] (.box 118 [.f (.v (.int .i64 s.id)),.f (.v (.int .i64 s.ver)),.f (.v (.int .i64 s.time)),.f (.v (.int .i64 s.closed)),.f (.v (.bool s.cancel)),.f (fG s.defs),.f (fNn s.nodes),.f (fTm s.tms),.f (fSg s.sgs),.f (.v (.int .i64 ver)),.f (.v (.int .i64 now)),.f (fEv out)] :: H) K) (K true (.f (.v (.int .i64 (armP ⟨s,ver,now,out⟩ nm t).1))) (pnB (armP ⟨s,ver,now,out⟩ nm t).2 :: H)):=⟨fun h =>
 callDr_own (c_pen_Arm ⟨s,ver,now,out⟩ nm t ho.h hl.h k1.h) rfl rfl (fun _=>rfl) (fun _=>rfl) (fun _=>rfl) (fun _=>rfl) h⟩
instance {s:S12}{ver now:Int}{out:List Ev}{H:List Row}{K:Bool→D→List Row→Prop}{nm d:Bs}[ho:Kn (Ok12 s)][hl:Kn (out.length≤1000000)][k1:Kn (nm.length≤1000000)][k2:Kn (d.length≤1000000)] :
  Wa (callDr Tryz.prog (.fn 155 []) [.pt 0 0,.f (.v (.string (BB nm))),.f (fY d)] (.box 118 [.f (.v (.int .i64 s.id)),.f (.v (.int .i64 s.ver)),.f (.v (.int .i64 s.time)),.f (.v (.int .i64 s.closed)),.f (.v (.bool s.cancel)),.f (fG s.defs),.f (fNn s.nodes),.f (fTm s.tms),.f (fSg s.sgs),.f (.v (.int .i64 ver)),.f (.v (.int .i64 now)),.f (fEv out)] :: H) K) (K true (.tp [.f (.v (.bool (signalP ⟨s,ver,now,out⟩ nm d).1.1)),.f (.v (.int .i64 (signalP ⟨s,ver,now,out⟩ nm d).1.2))]) (pnB (signalP ⟨s,ver,now,out⟩ nm d).2 :: H)):=⟨fun h =>
 callDr_own (c_pen_Signal ⟨s,ver,now,out⟩ nm d ho.h hl.h k1.h k2.h) rfl rfl (fun _=>rfl) (fun _=>rfl) (fun _=>rfl) (fun _=>rfl) h⟩
instance {s:S12}{ver now:Int}{out:List Ev}{H:List Row}{K:D→List Row→Prop}  [ho:Kn (Ok12 s)][hl:Kn (out.length≤1000000)] :
  Wa (callW Tryz.prog (.fn 157 []) [.pt 0 0] (.box 118 [.f (.v (.int .i64 s.id)),.f (.v (.int .i64 s.ver)),.f (.v (.int .i64 s.time)),.f (.v (.int .i64 s.closed)),.f (.v (.bool s.cancel)),.f (fG s.defs),.f (fNn s.nodes),.f (fTm s.tms),.f (fSg s.sgs),.f (.v (.int .i64 ver)),.f (.v (.int .i64 now)),.f (fEv out)] :: H) K) (K (.f (.v (.int .i64 (cancelP ⟨s,ver,now,out⟩).1))) (pnB (cancelP ⟨s,ver,now,out⟩).2 :: H)):=⟨fun h =>
 callW_own (c_pen_Cancel ⟨s,ver,now,out⟩ ho.h hl.h) rfl rfl (fun _=>rfl) (fun _=>rfl) (fun _=>rfl) (fun _=>rfl) h⟩
instance {s:S12}{ver now:Int}{out:List Ev}{H:List Row}{K:D→List Row→Prop}  [ho:Kn (Ok12 s)][hl:Kn (out.length≤1000000)] :
  Wa (callW Tryz.prog (.fn 159 []) [.pt 0 0] (.box 118 [.f (.v (.int .i64 s.id)),.f (.v (.int .i64 s.ver)),.f (.v (.int .i64 s.time)),.f (.v (.int .i64 s.closed)),.f (.v (.bool s.cancel)),.f (fG s.defs),.f (fNn s.nodes),.f (fTm s.tms),.f (fSg s.sgs),.f (.v (.int .i64 ver)),.f (.v (.int .i64 now)),.f (fEv out)] :: H) K) (K (.f (.v (.int .i64 (termP ⟨s,ver,now,out⟩).1))) (pnB (termP ⟨s,ver,now,out⟩).2 :: H)):=⟨fun h =>
 callW_own (c_pen_Terminate ⟨s,ver,now,out⟩ ho.h hl.h) rfl rfl (fun _=>rfl) (fun _=>rfl) (fun _=>rfl) (fun _=>rfl) h⟩
instance {s:S12}{ver now:Int}{out:List Ev}{H:List Row}{K:D→List Row→Prop}[ho:Kn (Ok12 s)][hl:Kn (out.length≤1000000)][k1:Kn (∃ b,PnOk b ⟨s,ver,now,out⟩)] :
  Wa (callW Tryz.prog (.fn 160 []) [.pt 0 0] (.box 118 [.f (.v (.int .i64 s.id)),.f (.v (.int .i64 s.ver)),.f (.v (.int .i64 s.time)),.f (.v (.int .i64 s.closed)),.f (.v (.bool s.cancel)),.f (fG s.defs),.f (fNn s.nodes),.f (fTm s.tms),.f (fSg s.sgs),.f (.v (.int .i64 ver)),.f (.v (.int .i64 now)),.f (fEv out)] :: H) K) (K (.f (.v (.int .i64 (lateP ⟨s,ver,now,out⟩).1))) (pnB (lateP ⟨s,ver,now,out⟩).2 :: H)):=⟨fun h =>
 callW_own (k1.h.elim fun b hb=>c_pen_Late b ⟨s,ver,now,out⟩ hb) rfl rfl (fun _=>rfl) (fun _=>rfl) (fun _=>rfl) (fun _=>rfl) h⟩
def SgN (e:Ev):Prop:=e.ty=7→∃ a b,e.name=nameL a++nameL b
def PnS (p:Pn):Prop:=∀ e∈p.out,SgN e
theorem writeP_s {p:Pn}{e:Ev}(h:PnS p)(he:SgN e):PnS (writeP p e).2:=by
 have hn:SgN (nextP p e):=he
 rcases writeP_is p e with ⟨_,h2⟩|⟨_,_,h2,_,h3⟩|⟨_,_,h2,_,f,hf,h3,h4⟩
 ·rw [h2];exact h
 ·rw [h3]
  intro x hx
  rcases List.mem_append.1 hx with hx|hx
  ·exact h x hx
  ·obtain rfl:=List.mem_singleton.1 hx;exact hn
 ·rw [h4]
  intro x hx
  rcases List.mem_append.1 hx with hx|hx
  ·exact h x hx
  ·rcases List.mem_cons.1 hx with rfl|hx
   ·exact hn
   ·obtain rfl:=List.mem_singleton.1 hx
    intro ht
    have hk:=endingL_in (applyR p.s (nextP p e)).2
    have hft:x.ty=endingL (applyR p.s (nextP p e)).2:=by rw [hf];try rfl
    omega
theorem sgN_of {e:Ev}(h:e.ty≠7):SgN e:=fun hh=>absurd hh h
structure PnT (b:S12)(p:Pn):Prop where
 ok:PnOk b p
 sg:PnS p
theorem startP_t {b:S12}{p:Pn}{ds:List Nd}(h:PnT b p)(hd:Fit ds):PnT b (startP p ds).2:=by
 refine ⟨startP_ok h.ok hd,?_⟩
 unfold startP
 repeat' split
 all_goals first|exact h.sg|exact writeP_s h.sg (sgN_of (by simp))
theorem beginP_t {b:S12}{p:Pn}(h:PnT b p):PnT b (beginP p).2:=by
 refine ⟨beginP_ok h.ok,?_⟩
 unfold beginP
 repeat' split
 all_goals first|exact h.sg|exact writeP_s h.sg (sgN_of (by simp))
theorem finishP_t {b:S12}{p:Pn}{i t:Int}{ok:Bool}{d:Bs}(h:PnT b p)(hd:d.length≤1000000):PnT b (finishP p i t ok d).2:=by
 refine ⟨finishP_ok h.ok hd,?_⟩
 unfold finishP
 repeat' split
 all_goals first|exact h.sg|exact writeP_s h.sg (sgN_of (by simp))
theorem armP_t {b:S12}{p:Pn}{nm:Bs}{t:Int}(h:PnT b p)(hn:nm.length≤1000000):PnT b (armP p nm t).2:=by
 refine ⟨armP_ok h.ok hn,?_⟩
 unfold armP
 repeat' split
 all_goals first|exact h.sg|exact writeP_s h.sg (sgN_of (by simp))
theorem signalP_t {b:S12}{p:Pn}{x y:Int}{d:Bs}(h:PnT b p)(hn:(nameL x++nameL y).length≤1000000)(hd:d.length≤1000000):PnT b (signalP p (nameL x++nameL y) d).2:=by
 refine ⟨signalP_ok h.ok hn hd,?_⟩
 unfold signalP
 repeat' split
 all_goals first|exact h.sg|exact writeP_s h.sg (fun _=>⟨x,y,rfl⟩)
theorem cancelP_t {b:S12}{p:Pn}(h:PnT b p):PnT b (cancelP p).2:=by
 refine ⟨cancelP_ok h.ok,?_⟩
 unfold cancelP
 repeat' split
 all_goals first|exact h.sg|exact writeP_s h.sg (sgN_of (by simp))
theorem termP_t {b:S12}{p:Pn}(h:PnT b p):PnT b (termP p).2:=by
 refine ⟨termP_ok h.ok,?_⟩
 unfold termP
 repeat' split
 all_goals first|exact h.sg|exact writeP_s h.sg (sgN_of (by simp))
theorem lateN_s {now:Int}:∀ {k i:Nat} {p:Pn} {n:Int},PnS p→PnS (lateN now k i p n).2.1
 | 0,_,_,_,h=>h
 | k+1,i,p,n,h=>by
  rw [lateN]
  have hw:=writeP_s (e:=⟨0,0,0,4,i,(gt p.s.nodes i).tr,[],[],[]⟩) h (sgN_of (by simp))
  split
  ·exact h
  ·split
   ·exact lateN_s h
   ·split
    ·exact lateN_s h
    ·split
     ·exact hw
     ·exact lateN_s hw
theorem lateT_s {now:Int}:∀ {f:Nat} {p:Pn} {n:Int},PnS p→PnS (lateT now f p n).2
 | 0,_,_,h=>h
 | f+1,p,n,h=>by
  rw [lateT]
  split
  ·exact h
  ·split
   ·exact h
   ·have hw:=writeP_s (e:=⟨0,0,0,6,0,0,(gt p.s.tms (pickF now p.s.tms 0 (-1) p.s.tms).toNat).name,[],[]⟩) h (sgN_of (by simp))
    split
    ·exact hw
    ·exact lateT_s hw
theorem lateP_t {b:S12}{p:Pn}(h:PnT b p):PnT b (lateP p).2:=by
 refine ⟨lateP_ok h.ok,?_⟩
 unfold lateP
 split
 ·exact lateN_s h.sg
 ·exact lateT_s (lateN_s h.sg)
theorem bb_app {a b:Bs}:BB a++BB b=BB (a++b):=by
 apply ByteArray.ext
 rw [ByteArray.data_append]
 simp [BB]
def finA (p:Pn)(x:Rw):Nat→Nat→Pn
 | 0,_=>(beginP p).2
 | f+1,i=>if (gt p.s.nodes i).st=1 then (if 0<x.a.tmod 4 then (finishP p i (gt p.s.nodes i).tr true (fewL x.data 40)).2 else (finishP p i (gt p.s.nodes i).tr false (fewL x.data 0)).2) else finA p x f (i+1)
def stepP (p:Pn)(x:Rw)(l:List Rd):Pn :=
 if p.s.id=0 then (startP p (defs7L l)).2
 else if pick x.what 16≤4 then (beginP p).2
 else if pick x.what 16≤8 then finA p x p.s.nodes.length 0
 else if pick x.what 16≤9 then (armP p (nameL x.a) (1+pick x.b 9)).2
 else if pick x.what 16≤12 then (signalP p (nameL x.a++nameL x.b) (fewL x.data 40)).2
 else if pick x.what 16≤14 then (lateP p).2
 else if x.b.tmod 4=0 then (cancelP p).2 else if x.b.tmod 29=28 then (termP p).2 else p
theorem fewL_m {b:Bs}{n:Int}(h:0≤n)(hn:n≤1000):(fewL b n).length≤1000000:=by have:=fewL_len (b:=b) (n:=n) h;omega
theorem nameL_m (a b:Int):(nameL a++nameL b).length≤1000000:=by have:=nameL_len a;have:=nameL_len b;rw [List.length_append];omega
theorem finA_t {b:S12}{p:Pn}{x:Rw}(h:PnT b p):∀ {f i:Nat},PnT b (finA p x f i)
 | 0,_=>beginP_t h
 | f+1,i=>by
  rw [finA]
  split
  ·split
   ·exact finishP_t h (fewL_m (by omega) (by omega))
   ·exact finishP_t h (fewL_m (by omega) (by omega))
  ·exact finA_t h
theorem stepP_t {b:S12}{p:Pn}{x:Rw}{l:List Rd}(h:PnT b p):PnT b (stepP p x l):=by
 have hd:=defs7L_ok l
 unfold stepP
 repeat' split
 ·exact startP_t h (hd.1.fit hd.2.2)
 ·exact beginP_t h
 ·exact finA_t h
 ·exact armP_t h (by have:=nameL_len x.a;omega)
 ·exact signalP_t h (nameL_m _ _) (fewL_m (by omega) (by omega))
 ·exact lateP_t h
 ·exact cancelP_t h
 ·exact termP_t h
 ·exact h
set_option maxRecDepth 100000 in
theorem c_play_stepX (b:S12)(p:Pn)(x:Rw)(l:List Rd)(hp:PnT b p):Con Tryz.prog 186 [.pt 0 0,rwD x,.f (fR l)] [pnB p] fun r H'=>r = .tp []∧H'=[pnB (stepP p x l)]:=by
 obtain ⟨s,ver,now,out⟩:=p
 suffices hh:∀ Q:D→List Row→Prop,(∀ p',stepP ⟨s,ver,now,out⟩ x l=p'→Q (.tp []) [pnB p'])→Con Tryz.prog 186 [.pt 0 0,rwD x,.f (fR l)] [pnB ⟨s,ver,now,out⟩] Q from hh _ fun p' h=>⟨rfl,by rw [h]⟩
 intro Q hQ
 have hE:stepP ⟨s,ver,now,out⟩ x l=stepP ⟨s,ver,now,out⟩ x l:=rfl
 conv at hE=>rhs;unfold stepP
 dsimp only at hE
 have ho:Ok12 s:=hp.ok.ok
 have hl:out.length≤200:=hp.ok.len
 haveI:Kn (Ok12 s):=⟨ho⟩
 haveI:Kn (Wk12 s):=⟨ho.wk⟩
 haveI:Kn (out.length≤1000000):=⟨by omega⟩
 refine Con.walk good fn_play_step (by simp) ?_
 unfold s_play_step
 simp only [argsE,pnB,pnD,rwD]
 have hf1:=fewL_len (b:=x.data) (n:=40) (by omega)
 have hf2:=fewL_len (b:=x.data) (n:=0) (by omega)
 haveI:Kn ((fewL x.data 40).length≤1000000):=⟨by omega⟩
 haveI:Kn ((fewL x.data 0).length≤1000000):=⟨by omega⟩
 haveI:Kn ((nameL x.a).length≤1000000):=⟨by have:=nameL_len x.a;omega⟩
 haveI:Kn (∃ b,PnOk b ⟨s,ver,now,out⟩):=⟨b,hp.ok⟩
 by_cases hz:s.id=0
 ·repeat' (with_reducible first|apply Wx.h|refine Wb.h fun K hK=>?_|(refine hK _ ?_;clear hK K)|(apply wT;assumption)|(apply wF;assumption)|(apply Wy.h;kernel_rfl)|apply Wq.h<;>intro h<;>try (exfalso;omega)|apply Wu.h<;>intro h<;>try simp only [h]|((fail_if_success apply Wz.h);first|simp (disch:=omega) only [↓LD,LA,loadA_rf,seval]|(apply And.intro;omega)|simp only [D.int,D.bool]))
  refine callW_emb (c_hand_Defs7X l) [] (by kernel_rfl) rfl rfl ?_
  rintro _ _ ⟨rfl,rfl⟩
  have hd:=defs7L_ok l
  haveI:Kn (Fit (defs7L l)):=⟨hd.1.fit hd.2.2⟩
  simp (disch:=omega) only [↓LD,LA,loadA_rf,seval,ren,List.getElem?_nil]
  repeat' (with_reducible first|apply Wx.h|refine Wb.h fun K hK=>?_|(refine hK _ ?_;clear hK K)|(apply wT;assumption)|(apply wF;assumption)|(apply Wy.h;kernel_rfl)|apply Wq.h<;>intro h<;>try (exfalso;omega)|apply Wu.h<;>intro h<;>try simp only [h]|((fail_if_success apply Wz.h);first|simp (disch:=omega) only [↓LD,LA,loadA_rf,seval]|(apply And.intro;omega)|simp only [D.int,D.bool]))
  exact RetS.still (ds:=[]) (by kernel_rfl) (by kernel_rfl) (.tps .nil) (hQ _ (by rw [hE,if_pos hz]))
 haveI:Kn ((nameL x.a++nameL x.b).length≤1000000):=⟨by have:=nameL_len x.a;have:=nameL_len x.b;rw [List.length_append];omega⟩
 have hsz:(BB (nameL x.a)).size+(BB (nameL x.b)).size≤1000:=by have:=nameL_len x.a;have:=nameL_len x.b;rw [bb_len,bb_len];omega
 have hnl:=ho.wk.fit.fit.nodes
 have hla:=nameL_len x.a
 have hlb:=nameL_len x.b
 have hpk:=pick_in (x:=x.b) (n:=9) (by omega)
 rw [if_neg hz] at hE
 have hpw:=pick_in (x:=x.what) (n:=16) (by omega)
 repeat' (with_reducible first|apply Wx.h|refine We.h fun K hK=>?_|refine Wd.h fun K M hK hM=>?_|(refine hK _ _ _ _ ?_;clear hK K;try clear hM M)|(refine hM ?_;clear hM M;try clear hK K)|refine Wb.h fun K hK=>?_|(refine hK _ ?_;clear hK K)|(apply wT;assumption)|(apply wF;assumption)|(apply Wy.h;kernel_rfl)|apply Wq.h<;>intro h<;>try (exfalso;omega)|apply Wu.h<;>intro h<;>try simp only [h]|((fail_if_success apply Wz.h);first|simp (disch:=omega) only [↓LD,LA,loadA_rf,seval,bb_app]|(apply And.intro;omega)|simp only [D.int,D.bool]))
 all_goals first
  | exact RetS.still (ds:=[]) (by kernel_rfl) (by kernel_rfl) (.tps .nil) (hQ (beginP ⟨s,ver,now,out⟩).2 (by rw [hE,if_pos (by omega)]))
  | exact RetS.still (ds:=[]) (by kernel_rfl) (by kernel_rfl) (.tps .nil) (hQ (armP ⟨s,ver,now,out⟩ (nameL x.a) (1+pick x.b 9)).2 (by rw [hE,if_neg (by omega),if_neg (by omega),if_pos (by omega)]))
  | exact RetS.still (ds:=[]) (by kernel_rfl) (by kernel_rfl) (.tps .nil) (hQ (signalP ⟨s,ver,now,out⟩ (nameL x.a++nameL x.b) (fewL x.data 40)).2 (by rw [hE,if_neg (by omega),if_neg (by omega),if_neg (by omega),if_pos (by omega)]))
  | exact RetS.still (ds:=[]) (by kernel_rfl) (by kernel_rfl) (.tps .nil) (hQ (lateP ⟨s,ver,now,out⟩).2 (by rw [hE,if_neg (by omega),if_neg (by omega),if_neg (by omega),if_neg (by omega),if_pos (by omega)]))
  | exact RetS.still (ds:=[]) (by kernel_rfl) (by kernel_rfl) (.tps .nil) (hQ (cancelP ⟨s,ver,now,out⟩).2 (by rw [hE,if_neg (by omega),if_neg (by omega),if_neg (by omega),if_neg (by omega),if_neg (by omega),if_pos (by assumption)]))
  | exact RetS.still (ds:=[]) (by kernel_rfl) (by kernel_rfl) (.tps .nil) (hQ (termP ⟨s,ver,now,out⟩).2 (by rw [hE,if_neg (by omega),if_neg (by omega),if_neg (by omega),if_neg (by omega),if_neg (by omega),if_neg (by assumption),if_pos (by assumption)]))
  | exact RetS.still (ds:=[]) (by kernel_rfl) (by kernel_rfl) (.tps .nil) (hQ ⟨s,ver,now,out⟩ (by rw [hE,if_neg (by omega),if_neg (by omega),if_neg (by omega),if_neg (by omega),if_neg (by omega),if_neg (by assumption),if_neg (by assumption)]))
  | skip
 all_goals
  rw [if_neg (by omega),if_pos (by omega)] at hE
  refine HS.loopG [0,4,6] (fun i:Nat=>⟨frm 124 [(0,.pt 0 0),(4,.pt 1 0),(6,D.int i)],[pnB ⟨s,ver,now,out⟩,.box 217 [D.int x.what,D.int x.a,D.int x.b,D.int x.c,D.int x.v,.f (fY x.data)]],[]⟩)
   (fun i=>i≤s.nodes.length∧stepP ⟨s,ver,now,out⟩ x l=finA ⟨s,ver,now,out⟩ x (s.nodes.length-i) i) (fun i=>s.nodes.length-i) 0 (by kernel_rfl) ⟨Nat.zero_le _,hE⟩ ?_
  clear hE
  rintro i ⟨hi,hE⟩
  by_cases hil:i<s.nodes.length
  ·rw [show s.nodes.length-i=(s.nodes.length-(i+1))+1 by omega,finA] at hE
   dsimp only at hE
   repeat' (with_reducible first|apply Wx.h|refine We.h fun K hK=>?_|refine Wd.h fun K M hK hM=>?_|(refine hK _ _ _ _ ?_;clear hK K;try clear hM M)|(refine hM ?_;clear hM M;try clear hK K)|refine Wb.h fun K hK=>?_|(refine hK _ ?_;clear hK K)|(apply wT;assumption)|(apply wF;assumption)|(apply Wy.h;kernel_rfl)|apply Wq.h<;>intro h<;>try (exfalso;omega)|apply Wu.h<;>intro h<;>try simp only [h]|((fail_if_success apply Wz.h);first|simp (disch:=omega) only [↓LD,LA,loadA_rf,seval,LSt,pnB,pnD,at0_fNn,at1_fNn,len_fNn,Nn.cs]|(apply And.intro;omega)|simp only [D.int,D.bool]))
   all_goals first
    | exact RetS.still (ds:=[]) (by kernel_rfl) (by kernel_rfl) (.tps .nil) (hQ (finishP ⟨s,ver,now,out⟩ i (gt s.nodes i).tr true (fewL x.data 40)).2 (by rw [hE,if_pos (by assumption),if_pos (by assumption)]))
    | exact RetS.still (ds:=[]) (by kernel_rfl) (by kernel_rfl) (.tps .nil) (hQ (finishP ⟨s,ver,now,out⟩ i (gt s.nodes i).tr false (fewL x.data 0)).2 (by rw [hE,if_pos (by assumption),if_neg (by assumption)]))
    | exact Next.mk (i+1) (by kernel_rfl) ⟨by omega,by rw [hE,if_neg (by assumption)]⟩ (by omega)
  ·rw [show s.nodes.length-i=0 by omega,finA] at hE
   repeat' (with_reducible first|apply Wx.h|refine We.h fun K hK=>?_|refine Wd.h fun K M hK hM=>?_|(refine hK _ _ _ _ ?_;clear hK K;try clear hM M)|(refine hM ?_;clear hM M;try clear hK K)|refine Wb.h fun K hK=>?_|(refine hK _ ?_;clear hK K)|(apply wT;assumption)|(apply wF;assumption)|(apply Wy.h;kernel_rfl)|apply Wq.h<;>intro h<;>try (exfalso;omega)|apply Wu.h<;>intro h<;>try simp only [h]|((fail_if_success apply Wz.h);first|simp (disch:=omega) only [↓LD,LA,loadA_rf,seval,LSt,pnB,pnD,at0_fNn,at1_fNn,len_fNn,Nn.cs]|(apply And.intro;omega)|simp only [D.int,D.bool]))
   exact RetS.still (ds:=[]) (by kernel_rfl) (by kernel_rfl) (.tps .nil) (hQ _ hE)
theorem take_fEv {g:List Ev}{k:Nat}(hk:k<g.length):((g.flatMap Ev.cs).drop (k*9)).take 9=Ev.cs (gt g k):=flat_take Ev.cs_len hk
def rEv (l:List Ev):Row:=.data 42 (l.flatMap Ev.cs)
set_option maxRecDepth 100000 in
theorem c_ref_FoldL (l:List Ev)(hl:l.length≤1000000)(hf:∀ e∈l,FitV e):Con Tryz.prog 23 [.sl 0 0 l.length] [rEv l] fun r H'=>r = .tp [stD (foldR s0 l).2,D.int (foldR s0 l).1]∧H'=[rEv l]:=by
 refine Con.walk good fn_ref_Fold (by simp) ?_
 unfold s_ref_Fold
 simp only [argsE]
 repeat' (with_reducible first|apply Wx.h|refine Wb.h fun K hK=>?_|(refine hK _ ?_;clear hK K)|(apply wT;assumption)|(apply wF;assumption)|(apply Wy.h;kernel_rfl)|apply Wq.h<;>intro h<;>try (exfalso;omega)|apply Wu.h<;>intro h<;>try simp only [h]|((fail_if_success apply Wz.h);first|simp (disch:=omega) only [↓LD,LA,loadA_rf,seval,rEv]|(apply And.intro;omega)|simp only [D.int,D.bool]))
 refine HS.view (View.bcell 2 5 (.f (.s [] 0)) rfl rfl .ns) ?_
 refine HS.view (View.bcell 2 6 (.f (.s [] 0)) rfl rfl .ns) ?_
 refine HS.view (View.bcell 2 7 (.f (.s [] 0)) rfl rfl .ns) ?_
 refine HS.view (View.bcell 2 8 (.f (.s [] 0)) rfl rfl .ns) ?_
 refine HS.loopG [0,2,4,5] (fun x:Nat × S12=>⟨frm 27 [(0,.sl 0 0 l.length),(2,.pt 1 0),(4,.pt 2 0),(5,D.int x.1)],[rEv l,.box 47 [jI,jI,jI,jI,jF,jN,jN,jN,jN],stF x.2],[]⟩)
  (fun x=>x.1≤l.length∧Ok12 x.2∧foldR s0 l=foldR x.2 (l.drop x.1)) (fun x=>l.length-x.1) (0,s0) (by kernel_rfl) ⟨Nat.zero_le _,ok12_0,rfl⟩ ?_
 rintro ⟨i,s⟩ ⟨hi,ho,hF⟩
 dsimp only at hi ho hF
 by_cases hil:i<l.length
 ·rw [drop_gt hil,foldR] at hF
  have hv:=hf _ (gt_mem hil)
  haveI:Kn (Wk12 s):=⟨ho.wk⟩
  haveI:Kn (FitV (gt l i)):=⟨hv⟩
  repeat' (with_reducible first|apply Wx.h|refine We.h fun K hK=>?_|refine Wd.h fun K M hK hM=>?_|(refine hK _ _ _ _ ?_;clear hK K;try clear hM M)|(refine hM ?_;clear hM M;try clear hK K)|refine Wb.h fun K hK=>?_|(refine hK _ ?_;clear hK K)|(apply wT;assumption)|(apply wF;assumption)|(apply Wy.h;kernel_rfl)|apply Wq.h<;>intro h<;>try (exfalso;omega)|apply Wu.h<;>intro h<;>try simp only [h]|((fail_if_success apply Wz.h);first|simp (disch:=omega) only [↓LD,LA,loadA_rf,seval,rEv,take_fEv,len_fEv,Ev.cs,stF,List.map_cons,List.map_nil]|(apply And.intro;omega)|simp only [D.int,D.bool]))
  ·have hz:(applyR s (gt l i)).1=0:=by assumption
   rw [if_pos hz] at hF
   have ho2:=ok12_apply ho hv.2.2.2 hz
   exact Next.mk (i+1,(applyR s (gt l i)).2) (by kernel_rfl) ⟨by dsimp only;omega,ho2,hF⟩ (by dsimp only;omega)
  ·rw [if_neg (by assumption)] at hF
   rw [hF]
   exact RetS.still (ds:=[.ag [jI,jI,jI,jI,jF,jN,jN,jN,jN],D.int (applyR s (gt l i)).1]) (by kernel_rfl) (by kernel_rfl) (.tps (.cons (.ags (.cons .f (.cons .f (.cons .f (.cons .f (.cons .f (.cons .nil (.cons .nil (.cons .nil (.cons .nil .nil)))))))))) (.cons .f .nil))) ⟨rfl,rfl⟩
 ·repeat' (with_reducible first|apply Wx.h|refine Wb.h fun K hK=>?_|(refine hK _ ?_;clear hK K)|(apply wT;assumption)|(apply wF;assumption)|(apply Wy.h;kernel_rfl)|apply Wq.h<;>intro h<;>try (exfalso;omega)|apply Wu.h<;>intro h<;>try simp only [h]|((fail_if_success apply Wz.h);first|simp (disch:=omega) only [↓LD,LA,loadA_rf,seval,rEv,stF]|(apply And.intro;omega)|simp only [D.int,D.bool]))
  rw [List.drop_of_length_le (by omega),foldR] at hF
  rw [hF]
  exact RetS.still (ds:=[stD s,D.int 0]) (by kernel_rfl) (by kernel_rfl) (.tps (.cons vws_stD (.cons .f .nil))) ⟨rfl,rfl⟩
theorem c_pen_NewL (l:List Ev)(ver now:Int)(hl:l.length≤1000000)(hf:∀ e∈l,FitV e):Con Tryz.prog 65 [.sl 0 0 l.length,D.int ver,D.int now] [rEv l] fun r H' =>
  (newE l ver now≠0→r = .tp [.f (.v (.pointer none)),D.int (newE l ver now)]∧H'=[rEv l])∧(newE l ver now=0→r = .tp [.pt 1 0,D.int 0]∧H'=[rEv l,pnB ⟨(foldR s0 l).2,ver,now,[]⟩]):=by
 suffices hh:∀ Q:D→List Row→Prop,(∀ r H',((newE l ver now≠0→r = .tp [.f (.v (.pointer none)),D.int (newE l ver now)]∧H'=[rEv l])∧(newE l ver now=0→r = .tp [.pt 1 0,D.int 0]∧H'=[rEv l,pnB ⟨(foldR s0 l).2,ver,now,[]⟩]))→Q r H')→Con Tryz.prog 65 [.sl 0 0 l.length,D.int ver,D.int now] [rEv l] Q from hh _ fun _ _ h=>h
 intro Q hQ
 haveI:Kn (l.length≤1000000):=⟨hl⟩
 haveI:Kn (∀ e∈l,FitV e):=⟨hf⟩
 have hE:newE l ver now=newE l ver now:=rfl
 conv at hE=>rhs;unfold newE
 generalize newE l ver now=E at hQ hE
 generalize hF:foldR s0 l=p at hQ hE
 obtain ⟨v,s⟩:=p
 dsimp only at hE hQ
 refine Con.walk good fn_pen_New (by simp) ?_
 unfold s_pen_New
 simp only [argsE]
 repeat' (with_reducible first|apply Wa.h|apply Ws.h|refine Wb.h fun K hK=>?_|(refine hK _ ?_;clear hK K)|(apply wT;assumption)|(apply wF;assumption)|(apply Wy.h;kernel_rfl)|apply Wq.h<;>intro h<;>try (exfalso;omega)|apply Wu.h<;>intro h<;>try simp only [h]|((fail_if_success apply Wz.h);first|simp (disch:=omega) only [↓LD,LA,loadA_rf,seval,rEv]|(apply And.intro;omega)|simp only [D.int,D.bool]))
 refine callW_emb (c_ref_FoldL l hl hf) [0] (by kernel_rfl) rfl rfl ?_
 rintro _ _ ⟨rfl,rfl⟩
 simp (disch:=omega) only [↓LD,LA,loadA_rf,seval,ren,List.getElem?_nil,rEv]
 rw [hF]
 repeat' (with_reducible first|apply Wa.h|apply Ws.h|refine Wb.h fun K hK=>?_|(refine hK _ ?_;clear hK K)|(apply wT;assumption)|(apply wF;assumption)|(apply Wy.h;kernel_rfl)|apply Wq.h<;>intro h<;>try (exfalso;omega)|apply Wu.h<;>intro h<;>try simp only [h]|((fail_if_success apply Wz.h);first|simp (disch:=omega) only [↓LD,LA,loadA_rf,seval,rEv,stD]|(apply And.intro;omega)|simp only [D.int,D.bool]))
 ·have hv:E=1:=by rw [hE,if_neg (fun hh=>hh (show v=0 by assumption)),if_pos (by assumption)]
  repeat' (with_reducible first|apply Wx.h|refine Wb.h fun K hK=>?_|(refine hK _ ?_;clear hK K)|(apply wT;assumption)|(apply wF;assumption)|(apply Wy.h;kernel_rfl)|apply Wq.h<;>intro h<;>try (exfalso;omega)|apply Wu.h<;>intro h<;>try simp only [h]|((fail_if_success apply Wz.h);first|simp (disch:=omega) only [↓LD,LA,loadA_rf,seval]|(apply And.intro;omega)|simp only [D.int,D.bool]))
  exact end2 rfl rfl rfl rfl (by kernel_rfl) (.tps (.cons .f (.cons .f .nil))) (hQ _ _ ⟨fun _=>⟨by rw [hv];try rfl,rfl⟩,fun h=>by omega⟩)
 ·have hv:E=1:=by rw [hE,if_neg (fun hh=>hh (show v=0 by assumption)),if_neg (by rw [show (!verB ver)=false by assumption];simp),if_pos (by assumption)]
  repeat' (with_reducible first|apply Wx.h|refine Wb.h fun K hK=>?_|(refine hK _ ?_;clear hK K)|(apply wT;assumption)|(apply wF;assumption)|(apply Wy.h;kernel_rfl)|apply Wq.h<;>intro h<;>try (exfalso;omega)|apply Wu.h<;>intro h<;>try simp only [h]|((fail_if_success apply Wz.h);first|simp (disch:=omega) only [↓LD,LA,loadA_rf,seval]|(apply And.intro;omega)|simp only [D.int,D.bool]))
  exact end2 rfl rfl rfl rfl (by kernel_rfl) (.tps (.cons .f (.cons .f .nil))) (hQ _ _ ⟨fun _=>⟨by rw [hv];try rfl,rfl⟩,fun h=>by omega⟩)
 ·have hv:E=1:=by rw [hE,if_neg (fun hh=>hh (show v=0 by assumption)),if_neg (by rw [show (!verB ver)=false by assumption];simp),if_neg (by assumption),if_pos (by assumption)]
  repeat' (with_reducible first|apply Wx.h|refine Wb.h fun K hK=>?_|(refine hK _ ?_;clear hK K)|(apply wT;assumption)|(apply wF;assumption)|(apply Wy.h;kernel_rfl)|apply Wq.h<;>intro h<;>try (exfalso;omega)|apply Wu.h<;>intro h<;>try simp only [h]|((fail_if_success apply Wz.h);first|simp (disch:=omega) only [↓LD,LA,loadA_rf,seval]|(apply And.intro;omega)|simp only [D.int,D.bool]))
  exact end2 rfl rfl rfl rfl (by kernel_rfl) (.tps (.cons .f (.cons .f .nil))) (hQ _ _ ⟨fun _=>⟨by rw [hv];try rfl,rfl⟩,fun h=>by omega⟩)
 ·have hv:E=4:=by rw [hE,if_neg (fun hh=>hh (show v=0 by assumption)),if_neg (by rw [show (!verB ver)=false by assumption];simp),if_neg (by assumption),if_neg (by assumption),if_pos (by assumption)]
  repeat' (with_reducible first|apply Wx.h|refine Wb.h fun K hK=>?_|(refine hK _ ?_;clear hK K)|(apply wT;assumption)|(apply wF;assumption)|(apply Wy.h;kernel_rfl)|apply Wq.h<;>intro h<;>try (exfalso;omega)|apply Wu.h<;>intro h<;>try simp only [h]|((fail_if_success apply Wz.h);first|simp (disch:=omega) only [↓LD,LA,loadA_rf,seval]|(apply And.intro;omega)|simp only [D.int,D.bool]))
  exact end2 rfl rfl rfl rfl (by kernel_rfl) (.tps (.cons .f (.cons .f .nil))) (hQ _ _ ⟨fun _=>⟨by rw [hv];try rfl,rfl⟩,fun h=>by omega⟩)
 ·have hv:E=0:=by rw [hE,if_neg (fun hh=>hh (show v=0 by assumption)),if_neg (by rw [show (!verB ver)=false by assumption];simp),if_neg (by assumption),if_neg (by assumption),if_neg (by assumption)]
  refine HS.view (View.bcell 2 11 (.f (.s [] 0)) rfl rfl .ns) ?_
  repeat' (with_reducible first|apply Wx.h|refine Wb.h fun K hK=>?_|(refine hK _ ?_;clear hK K)|(apply wT;assumption)|(apply wF;assumption)|(apply Wy.h;kernel_rfl)|apply Wq.h<;>intro h<;>try (exfalso;omega)|apply Wu.h<;>intro h<;>try simp only [h]|((fail_if_success apply Wz.h);first|simp (disch:=omega) only [↓LD,LA,loadA_rf,seval]|(apply And.intro;omega)|simp only [D.int,D.bool]))
  exact RetS.gather (ds:=[.pt 2 0,D.int 0]) (e:=⟨.tp [.pt 1 0,D.int 0],[(0,rEv l)],[pnB ⟨s,ver,now,[]⟩]⟩) (by kernel_rfl) (by kernel_rfl) (hQ _ _ ⟨fun h=>absurd hv h,fun _=>⟨rfl,rfl⟩⟩)
 ·have hv:E=1:=by rw [hE,if_pos (show v≠0 by assumption)]
  repeat' (with_reducible first|apply Wx.h|refine Wb.h fun K hK=>?_|(refine hK _ ?_;clear hK K)|(apply wT;assumption)|(apply wF;assumption)|(apply Wy.h;kernel_rfl)|apply Wq.h<;>intro h<;>try (exfalso;omega)|apply Wu.h<;>intro h<;>try simp only [h]|((fail_if_success apply Wz.h);first|simp (disch:=omega) only [↓LD,LA,loadA_rf,seval]|(apply And.intro;omega)|simp only [D.int,D.bool]))
  exact end2 rfl rfl rfl rfl (by kernel_rfl) (.tps (.cons .f (.cons .f .nil))) (hQ _ _ ⟨fun _=>⟨by rw [hv];try rfl,rfl⟩,fun h=>by omega⟩)
def bumpV (v:Int):Int:=v+1+ownD (v+1)
def verN:Nat→Int→Int
 | 0,v=>v
 | n+1,v=>verN n (bumpV v)
def verL (was n:Int):Int:=max (verN (pick n 3).toNat was) 1
theorem bumpV_in (v:Int):v+1≤bumpV v∧bumpV v≤v+7:=by
 have:=ownD_in (v+1)
 unfold bumpV;omega
theorem verN_in:∀ (n:Nat) (v:Int),v≤verN n v∧verN n v≤v+7*n
 | 0,v=>by simp [verN]
 | n+1,v=>by
  have h1:=verN_in n (bumpV v)
  have h2:=bumpV_in v
  rw [verN];omega
theorem verL_in (was n:Int):was≤verL was n∧1≤verL was n∧verL was n≤max was 1+21:=by
 have h1:=verN_in (pick n 3).toNat was
 have h2:=pick_in (x:=n) (n:=3) (by omega)
 unfold verL;omega
theorem ownD_good {x:Int}(h0:0≤x)(h1:¬ x.tmod 10<1)(h2:¬ 4<x.tmod 10):ownD x=0:=by
 rw [Int.tmod_eq_emod_of_nonneg h0] at h1 h2
 unfold ownD;split<;>(try split)<;>omega
theorem c_hand_VersionX (was n:Int)(h0:0≤was)(h1:was≤4398046511104):Con Tryz.prog 21 [D.int was,D.int n] [] fun r H'=>r=D.int (verL was n)∧H'=[]:=by
 refine Con.walk good fn_hand_Version (by simp) ?_
 unfold s_hand_Version
 simp only [argsE]
 repeat' (with_reducible first|apply Wx.h|refine Wb.h fun K hK=>?_|(refine hK _ ?_;clear hK K)|(apply wT;assumption)|(apply wF;assumption)|(apply Wy.h;kernel_rfl)|apply Wq.h<;>intro h<;>try (exfalso;omega)|apply Wu.h<;>intro h<;>try simp only [h]|((fail_if_success apply Wz.h);first|simp (disch:=omega) only [↓LD,LA,loadA_rf,seval]|(apply And.intro;omega)|simp only [D.int,D.bool]))
 have pk:=pick_in (x:=n) (n:=3) (by omega)
 refine HS.loopG [0,1,5,6] (fun x:Nat × Int=>⟨frm 28 [(0,D.int was),(1,D.int n),(5,D.int x.2),(6,D.int x.1)],[],[]⟩) (fun x=>(x.1:Int)≤pick n 3∧was≤x.2∧x.2≤was+11*x.1∧verN (pick n 3).toNat was=verN ((pick n 3).toNat-x.1) x.2) (fun x=>3-x.1) (0,was) (by kernel_rfl) ⟨by dsimp only;omega,by simp,by simp,rfl⟩ ?_
 rintro ⟨i,v⟩ ⟨hi,hv1,hv2,hv0⟩
 dsimp only at hi hv1 hv2 hv0
 repeat' (with_reducible first|apply Wx.h|refine Wb.h fun K hK=>?_|(refine hK _ ?_;clear hK K)|(apply wT;assumption)|(apply wF;assumption)|(apply Wy.h;kernel_rfl)|apply Wq.h<;>intro h<;>try (exfalso;omega)|apply Wu.h<;>intro h<;>try simp only [h]|((fail_if_success apply Wz.h);first|simp (disch:=omega) only [↓LD,LA,loadA_rf,seval]|(apply And.intro;omega)|simp only [D.int,D.bool]))
 ·have hd:=ownD_in (v+1)
  rw [show (pick n 3).toNat-i=((pick n 3).toNat-(i+1))+1 by omega,verN] at hv0
  refine HS.loopG [0,1,5,6] (fun x:Int=>⟨frm 28 [(0,D.int was),(1,D.int n),(5,D.int x),(6,D.int i)],[],[]⟩) (fun x=>v+1≤x∧x+ownD x=bumpV v) (fun x=>(ownD x).toNat) (v+1) (by kernel_rfl) ⟨by omega,rfl⟩ ?_
  rintro x ⟨hx1,hx2⟩
  have hbv:=bumpV_in v
  have hd2:=ownD_in x
  have hd3:=ownD_in (x+1)
  have hst:=ownD_step (x:=x) (by omega)
  have hgd:=ownD_good (x:=x) (by omega)
  repeat' (with_reducible first|apply Wx.h|refine Wb.h fun K hK=>?_|(refine hK _ ?_;clear hK K)|(apply wT;assumption)|(apply wF;assumption)|(apply Wy.h;kernel_rfl)|apply Wq.h<;>intro h<;>try (exfalso;omega)|apply Wu.h<;>intro h<;>try simp only [h]|((fail_if_success apply Wz.h);first|simp (disch:=omega) only [↓LD,LA,loadA_rf,seval]|(apply And.intro;omega)|simp only [D.int,D.bool]))
  ·have hst:=hst (.inl (by assumption))
   exact Next.mk (x+1) (by kernel_rfl) ⟨by omega,by omega⟩ (by omega)
  ·have hst:=hst (.inr (by assumption))
   exact Next.mk (x+1) (by kernel_rfl) ⟨by omega,by omega⟩ (by omega)
  ·have hgd:=hgd (by assumption) (by assumption)
   have hxb:x=bumpV v:=by omega
   exact Next.mk (i+1,x) (by kernel_rfl) ⟨by dsimp only;omega,by dsimp only;omega,by dsimp only;omega,by dsimp only;rw [hv0,hxb]⟩ (by dsimp only;omega)
 ·rw [show (pick n 3).toNat-i=0 by omega,verN] at hv0
  exact end1 rfl rfl (by kernel_rfl) .f ⟨by rw [verL,hv0];try rfl,rfl⟩
instance {v n:Int}{H:List Row}{K:D→List Row→Prop}:Wa (callW Tryz.prog (.fn 21 []) [.f (.v (.int .i64 v)),.f (.v (.int .i64 n))] H K) ((0≤v∧v≤4398046511104)∧K (.f (.v (.int .i64 (verL v n)))) H):=⟨fun h=>callW_pure (c_hand_VersionX v n h.1.1 h.1.2) rfl rfl rfl h.2⟩
instance {v n:Int}{H:List Row}{K:Bool→D→List Row→Prop}:Wa (callDr Tryz.prog (.fn 21 []) [.f (.v (.int .i64 v)),.f (.v (.int .i64 n))] H K) ((0≤v∧v≤4398046511104)∧K true (.f (.v (.int .i64 (verL v n)))) H):=⟨fun h=>callDr_pure (c_hand_VersionX v n h.1.1 h.1.2) rfl rfl rfl h.2⟩
end Go.Proofs.YtahoaijkchgdaaaGreatDoor.Mir
