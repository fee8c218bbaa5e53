/- Lemmas for the proof. No condition. -/
import Derived.Test.YthjgmldnegaaiaaGreatDoorSl12
set_option linter.unusedVariables false
set_option linter.unusedSimpArgs false
namespace Go.Proofs.YthjgmldnegaaiaaGreatDoor.Mir
open Go Go.RowKit
set_option maxHeartbeats 4000000
theorem e1J {H:List Row}{e:Ev}:Vw H (evD e) (evD e):=.ags (.cons .f (.cons .f (.cons .f (.cons .f (.cons .f (.cons .f (.cons .f (.cons .f (.cons .f .nil)))))))))
theorem i0g:inf Tryz.prog 73=some (9,112,[.int .i64 0,.int .i64 0,.int .i64 0,.int .i64 0,.int .i64 0,.int .i64 0,.string ⟨#[]⟩,.slice none 0 0,.slice none 0 0]):=by kernel_rfl
theorem f1f {l:List Ev}{e:Ev}:l.flatMap Ev.cs++[F.v (.int .i64 e.id),.v (.int .i64 e.ver),.v (.int .i64 e.time),.v (.int .i64 e.ty),.v (.int .i64 e.node),.v (.int .i64 e.n),.v (.string (BB e.name)),fY e.data,fG e.defs]=(l++[e]).flatMap Ev.cs:=by simp [Ev.cs]
theorem e1r {l:List Ev}{e f:Ev}:l.flatMap Ev.cs++[F.v (.int .i64 e.id),.v (.int .i64 e.ver),.v (.int .i64 e.time),.v (.int .i64 e.ty),.v (.int .i64 e.node),.v (.int .i64 e.n),.v (.string (BB e.name)),fY e.data,fG e.defs,F.v (.int .i64 f.id),.v (.int .i64 f.ver),.v (.int .i64 f.time),.v (.int .i64 f.ty),.v (.int .i64 f.node),.v (.int .i64 f.n),.v (.string (BB f.name)),fY f.data,fG f.defs]=(l++[e,f]).flatMap Ev.cs:=by simp [Ev.cs]
structure Pn where
 s:S12
 ver:Int
 now:Int
 out:List Ev
def pnD (p:Pn):List D:=[D.int p.s.id,D.int p.s.ver,D.int p.s.time,D.int p.s.closed,D.bool p.s.cancel,.f (fG p.s.defs),.f (fNn p.s.nodes),.f (fTm p.s.tms),.f (fSg p.s.sgs),D.int p.ver,D.int p.now,.f (fEv p.out)]
def pnB (p:Pn):Row:=.box 121 (pnD p)
def a0V (p:Pn)(e:Ev):Ev:={ e with id:=p.s.id+1,ver:=p.ver,time:=max p.now p.s.time }
theorem m0c (p:Pn)(e:Ev)(hi:0≤p.s.id∧p.s.id<1000000000):Con Tryz.prog 156 [.pt 0 0,evD e] [pnB p] fun r H'=>r=evD (a0V p e)∧H'=[pnB p]:=by
 obtain ⟨⟨id,ver,time,closed,cancel,defs,nodes,tms,sgs⟩,v,now,out⟩:=p
 obtain ⟨hi1,hi2⟩:=hi
 dsimp only at hi1 hi2
 refine Con.walk good s0l (by simp) ?_
 unfold m0K
 simp only [a0K,pnB,pnD,evD]
 repeat' (with_reducible first|refine Wx.h ?_|refine We.h fun K hK=>?_|refine Wd.h fun K M hK hM=>?_|(refine hK _ _ _ _ ?_;clear hK K;try clear hM M)|(refine hM ?_;clear hM M;try clear hK K)|refine Wb.h fun K hK=>?_|(refine hK _ ?_;clear hK K)|(refine wT ?_ ?_;assumption)|(refine wF ?_ ?_;assumption)|(refine Wy.h ?_ ?_;kernel_rfl)|refine Wq.h ?_ ?_<;>intro h<;>try (exfalso;omega)|refine Wu.h ?_ ?_<;>intro h<;>try simp only [h]|((fail_if_success refine Wz.h ?_);first|simp (disch:=omega) only [↓LD,LA,a0A,seval]|(refine And.intro ?_ ?_;omega)|simp only [D.int,D.bool]))
 exact RetS.still (ds:=[evD (a0V ⟨⟨id,ver,time,closed,cancel,defs,nodes,tms,sgs⟩,v,now,out⟩ e)]) (by kernel_rfl) (by kernel_rfl) e1J ⟨rfl,rfl⟩
def ev0 (ty:Int):Ev:=⟨0,0,0,ty,0,0,[],[],[]⟩
theorem g0W (s:S12):a0Y s=0∨a0Y s=9∨a0Y s=10∨a0Y s=11:=by
 unfold a0Y;split
 ·omega
 ·split
  ·omega
  ·split
   ·omega
   ·split<;>omega
def endP (p:Pn)(s:S12)(e1:Ev):Int × Pn :=
  if a0Y s≠0 then
    (if 200<s.id+1 then (2,p)
     else if (a0I s (a0V { p with s:=s } (ev0 (a0Y s)))).1≠0 then ((a0I s (a0V { p with s:=s } (ev0 (a0Y s)))).1,p)
     else (0,{ p with s:=(a0I s (a0V { p with s:=s } (ev0 (a0Y s)))).2,out:=p.out++[e1,a0V { p with s:=s } (ev0 (a0Y s))] }))
  else (0,{ p with s:=s,out:=p.out++[e1] })
def a0P (p:Pn)(e:Ev):Int × Pn :=
 if 200<p.s.id+1 then
  (if (a0I { p.s with id:=1 } { a0V p e with id:=2 }).1≠0 then ((a0I { p.s with id:=1 } { a0V p e with id:=2 }).1,p) else (2,p))
 else if (a0I p.s (a0V p e)).1≠0 then ((a0I p.s (a0V p e)).1,p)
 else endP p (a0I p.s (a0V p e)).2 (a0V p e)
set_option maxRecDepth 100000 in
theorem s0G (p:Pn)(e:Ev)(ho:Ok12 p.s)(he:FitV e)(hl:p.out.length≤1000000):Con Tryz.prog 132 [.pt 0 0,evD e] [pnB p] fun r H'=>r=D.int (a0P p e).1∧H'=[pnB (a0P p e).2]:=by
  obtain ⟨s,ver,now,out⟩:=p
  suffices hh:∀ Q:D→List Row→Prop,(∀ r H',r=D.int (a0P ⟨s,ver,now,out⟩ e).1→H'=[pnB (a0P ⟨s,ver,now,out⟩ e).2]→Q r H')→Con Tryz.prog 132 [.pt 0 0,evD e] [pnB ⟨s,ver,now,out⟩] Q from hh _ fun _ _ h1 h2=>⟨h1,h2⟩
  intro Q hQ
  dsimp only at ho hl
  have hid:=ho.id
  haveI:Kn (Wk12 s):=⟨ho.wk⟩
  have hn:FitV (a0V ⟨s,ver,now,out⟩ e):=he
  haveI:Kn (FitV (a0V ⟨s,ver,now,out⟩ e)):=⟨hn⟩
  refine Con.walk good q0D (by simp) ?_
  unfold j0J
  simp only [a0K,pnB,pnD,evD]
  repeat' (with_reducible first|refine Wx.h ?_|refine We.h fun K hK=>?_|refine Wd.h fun K M hK hM=>?_|(refine hK _ _ _ _ ?_;clear hK K;try clear hM M)|(refine hM ?_;clear hM M;try clear hK K)|refine Wb.h fun K hK=>?_|(refine hK _ ?_;clear hK K)|(refine wT ?_ ?_;assumption)|(refine wF ?_ ?_;assumption)|(refine Wy.h ?_ ?_;kernel_rfl)|refine Wq.h ?_ ?_<;>intro h<;>try (exfalso;omega)|refine Wu.h ?_ ?_<;>intro h<;>try simp only [h]|((fail_if_success refine Wz.h ?_);first|simp (disch:=omega) only [↓LD,LA,a0A,seval,LEv]|(refine And.intro ?_ ?_;omega)|simp only [D.int,D.bool]))
  all_goals refine b0j (m0c ⟨s,ver,now,out⟩ e ⟨by dsimp only;omega,by dsimp only;omega⟩) rfl rfl (fun _=>rfl) (fun _=>rfl) (fun _=>rfl) (fun _=>rfl) ?_
  repeat' (with_reducible first|refine Wx.h ?_|refine We.h fun K hK=>?_|refine Wd.h fun K M hK hM=>?_|(refine hK _ _ _ _ ?_;clear hK K;try clear hM M)|(refine hM ?_;clear hM M;try clear hK K)|refine Wb.h fun K hK=>?_|(refine hK _ ?_;clear hK K)|(refine wT ?_ ?_;assumption)|(refine wF ?_ ?_;assumption)|(refine Wy.h ?_ ?_;kernel_rfl)|refine Wq.h ?_ ?_<;>intro h<;>try (exfalso;omega)|refine Wu.h ?_ ?_<;>intro h<;>try simp only [h]|((fail_if_success refine Wz.h ?_);first|simp (disch:=omega) only [↓LD,LA,a0A,seval,LEv,pnB,pnD,evD,List.set_cons_zero]|(refine And.intro ?_ ?_;omega)|simp only [D.int,D.bool]))
  · have h2:200<s.id+1:=by assumption
    refine a0M (Wk12.app (ho.wk1 (by omega)) (e:={ a0V ⟨s,ver,now,out⟩ e with id:=2 }) hn) rfl rfl rfl ?_
    repeat' (with_reducible first|refine Wx.h ?_|refine We.h fun K hK=>?_|refine Wd.h fun K M hK hM=>?_|(refine hK _ _ _ _ ?_;clear hK K;try clear hM M)|(refine hM ?_;clear hM M;try clear hK K)|refine Wb.h fun K hK=>?_|(refine hK _ ?_;clear hK K)|(refine wT ?_ ?_;assumption)|(refine wF ?_ ?_;assumption)|(refine Wy.h ?_ ?_;kernel_rfl)|refine Wq.h ?_ ?_<;>intro h<;>try (exfalso;omega)|refine Wu.h ?_ ?_<;>intro h<;>try simp only [h]|((fail_if_success refine Wz.h ?_);first|simp (disch:=omega) only [↓LD,LA,a0A,seval,stD]|(refine And.intro ?_ ?_;omega)|simp only [D.int,D.bool]))
    · have hb:a0P ⟨s,ver,now,out⟩ e=(2,⟨s,ver,now,out⟩):=by unfold a0P;rw [if_pos h2,if_neg (fun hh=>hh (by assumption))]
      rw [hb] at hQ
      exact end1 rfl rfl (by kernel_rfl) .f (hQ _ _ rfl rfl)
    · have hb:a0P ⟨s,ver,now,out⟩ e=((a0I { s with id:=1 } { a0V ⟨s,ver,now,out⟩ e with id:=2 }).1,⟨s,ver,now,out⟩):=by unfold a0P;rw [if_pos h2,if_pos (by assumption)]
      rw [hb] at hQ
      exact end1 rfl rfl (by kernel_rfl) .f (hQ _ _ rfl rfl)
  rotate_left
  · have h2:¬ 200<s.id+1:=by assumption
    have hb:a0P ⟨s,ver,now,out⟩ e=((a0I s (a0V ⟨s,ver,now,out⟩ e)).1,⟨s,ver,now,out⟩):=by unfold a0P;rw [if_neg h2,if_pos (by assumption)]
    rw [hb] at hQ
    exact end1 rfl rfl (by kernel_rfl) .f (hQ _ _ rfl rfl)
  have h2:¬ 200<s.id+1:=by assumption
  have h3:(a0I s (a0V ⟨s,ver,now,out⟩ e)).1=0:=by assumption
  have hb:a0P ⟨s,ver,now,out⟩ e=endP ⟨s,ver,now,out⟩ (a0I s (a0V ⟨s,ver,now,out⟩ e)).2 (a0V ⟨s,ver,now,out⟩ e):=by unfold a0P;rw [if_neg h2,if_neg (fun hh=>hh h3)]
  rw [hb] at hQ
  clear hb
  have ho2:=c0U ho hn.2.2.2 h3
  have hid2:=ho2.id
  have hnl:=ho2.wk.fit.fit.nodes
  haveI:Kn (Wk12 (a0I s (a0V ⟨s,ver,now,out⟩ e)).2):=⟨ho2.wk⟩
  generalize (a0I s (a0V ⟨s,ver,now,out⟩ e)).1=v1 at *
  generalize (a0I s (a0V ⟨s,ver,now,out⟩ e)).2=s1 at *
  generalize a0V ⟨s,ver,now,out⟩ e=e1 at *
  refine a0C (p0h s1 hnl) rfl rfl rfl ?_
  have hek:=g0W s1
  have hn2:FitV (a0V ⟨s1,ver,now,out⟩ (ev0 (a0Y s1))):=⟨by simp [a0V,ev0],by simp [a0V,ev0],⟨by simp [a0V,ev0],by simp [a0V,ev0]⟩⟩
  haveI:Kn (FitV (a0V ⟨s1,ver,now,out⟩ (ev0 (a0Y s1)))):=⟨hn2⟩
  repeat' (with_reducible first|refine Wa.h ?_|refine Ws.h ?_|refine We.h fun K hK=>?_|refine Wd.h fun K M hK hM=>?_|(refine hK _ _ _ _ ?_;clear hK K;try clear hM M)|(refine hM ?_;clear hM M;try clear hK K)|refine Wb.h fun K hK=>?_|(refine hK _ ?_;clear hK K)|(refine wT ?_ ?_;assumption)|(refine wF ?_ ?_;assumption)|(refine Wy.h ?_ ?_;kernel_rfl)|refine Wq.h ?_ ?_<;>intro h<;>try (exfalso;omega)|refine Wu.h ?_ ?_<;>intro h<;>try simp only [h]|((fail_if_success refine Wz.h ?_);first|simp (disch:=omega) only [↓LD,LA,a0A,seval,LEv,a0J]|(refine And.intro ?_ ?_;omega)|simp only [D.int,D.bool]))
  · have h5:a0Y s1=0:=by assumption
    have hb:endP ⟨s,ver,now,out⟩ s1 e1=(0,⟨s1,ver,now,out++[e1]⟩):=by unfold endP;rw [if_neg (fun hh=>hh h5)]
    obtain rfl:out=[]:=List.eq_nil_of_length_eq_zero (by assumption)
    rw [hb] at hQ
    refine HS.view (View.fixb (xs:=[D.int s1.id,D.int s1.ver,D.int s1.time,D.int s1.closed,D.bool s1.cancel,.f (fG s1.defs),.f (fNn s1.nodes),.f (fTm s1.tms),.f (fSg s1.sgs),D.int ver,D.int now,.sl 5 0 1]) (ys:=([]++[e1]).flatMap Ev.cs) 0 11 5 rfl rfl rfl i0g (by omega) a0J (by omega)) ?_
    repeat' (with_reducible first|refine Wx.h ?_|refine Wb.h fun K hK=>?_|(refine hK _ ?_;clear hK K)|(refine wT ?_ ?_;assumption)|(refine wF ?_ ?_;assumption)|(refine Wy.h ?_ ?_;kernel_rfl)|refine Wq.h ?_ ?_<;>intro h<;>try (exfalso;omega)|refine Wu.h ?_ ?_<;>intro h<;>try simp only [h]|((fail_if_success refine Wz.h ?_);first|simp (disch:=omega) only [↓LD,LA,a0A,seval]|(refine And.intro ?_ ?_;omega)|simp only [D.int,D.bool]))
    exact end1 rfl rfl (by kernel_rfl) .f (hQ _ _ rfl rfl)
  · have h5:a0Y s1=0:=by assumption
    have hb:endP ⟨s,ver,now,out⟩ s1 e1=(0,⟨s1,ver,now,out++[e1]⟩):=by unfold endP;rw [if_neg (fun hh=>hh h5)]
    rw [hb] at hQ
    rw [f1f,show out.length+1=(out++[e1]).length by simp]
    refine HS.view (View.fixb 0 11 6 rfl rfl rfl i0g (by simp) a0J (by omega)) ?_
    repeat' (with_reducible first|refine Wx.h ?_|refine Wb.h fun K hK=>?_|(refine hK _ ?_;clear hK K)|(refine wT ?_ ?_;assumption)|(refine wF ?_ ?_;assumption)|(refine Wy.h ?_ ?_;kernel_rfl)|refine Wq.h ?_ ?_<;>intro h<;>try (exfalso;omega)|refine Wu.h ?_ ?_<;>intro h<;>try simp only [h]|((fail_if_success refine Wz.h ?_);first|simp (disch:=omega) only [↓LD,LA,a0A,seval]|(refine And.intro ?_ ?_;omega)|simp only [D.int,D.bool]))
    exact end1 rfl rfl (by kernel_rfl) .f (hQ _ _ rfl rfl)
  refine d0I (args0:=[.pt 0 0,evD (ev0 (a0Y s1))]) ?_ (by repeat' (first|exact WDs.nil|refine WDs.cons ?_ ?_|exact WD.refl|exact WD.f .ns|exact WD.f .es|refine WD.ags ?_|refine WD.f (WF.ls ?_)|exact WFs.nil|refine WFs.cons ?_ ?_|exact WF.refl|exact WF.ns|exact WF.es))
  refine b0j (m0c ⟨s1,ver,now,out⟩ (ev0 (a0Y s1)) ⟨by dsimp only;omega,by dsimp only;omega⟩) rfl rfl (fun _=>rfl) (fun _=>rfl) (fun _=>rfl) (fun _=>rfl) ?_
  have h5:¬ a0Y s1=0:=by assumption
  have hb:endP ⟨s,ver,now,out⟩ s1 e1=if 200<s1.id+1 then (2,⟨s,ver,now,out⟩) else if (a0I s1 (a0V ⟨s1,ver,now,out⟩ (ev0 (a0Y s1)))).1≠0 then ((a0I s1 (a0V ⟨s1,ver,now,out⟩ (ev0 (a0Y s1)))).1,⟨s,ver,now,out⟩)
     else (0,⟨(a0I s1 (a0V ⟨s1,ver,now,out⟩ (ev0 (a0Y s1)))).2,ver,now,out++[e1,a0V ⟨s1,ver,now,out⟩ (ev0 (a0Y s1))]⟩):=by unfold endP;rw [if_pos h5]
  rw [hb] at hQ
  clear hb
  have hni:(a0V ⟨s1,ver,now,out⟩ (ev0 (a0Y s1))).id=s1.id+1:=rfl
  generalize a0V ⟨s1,ver,now,out⟩ (ev0 (a0Y s1))=e2 at *
  repeat' (with_reducible first|refine Wa.h ?_|refine Ws.h ?_|refine We.h fun K hK=>?_|refine Wd.h fun K M hK hM=>?_|(refine hK _ _ _ _ ?_;clear hK K;try clear hM M)|(refine hM ?_;clear hM M;try clear hK K)|refine Wb.h fun K hK=>?_|(refine hK _ ?_;clear hK K)|(refine wT ?_ ?_;assumption)|(refine wF ?_ ?_;assumption)|(refine Wy.h ?_ ?_;kernel_rfl)|refine Wq.h ?_ ?_<;>intro h<;>try (exfalso;omega)|refine Wu.h ?_ ?_<;>intro h<;>try simp only [h]|((fail_if_success refine Wz.h ?_);first|simp (disch:=omega) only [↓LD,LA,a0A,seval,LEv,a0J,pnB,pnD,evD]|(refine And.intro ?_ ?_;omega)|simp only [D.int,D.bool]))
  · rw [if_pos (show 200<s1.id+1 by omega)] at hQ
    repeat' (with_reducible first|refine Wx.h ?_|refine Wb.h fun K hK=>?_|(refine hK _ ?_;clear hK K)|(refine wT ?_ ?_;assumption)|(refine wF ?_ ?_;assumption)|(refine Wy.h ?_ ?_;kernel_rfl)|refine Wq.h ?_ ?_<;>intro h<;>try (exfalso;omega)|refine Wu.h ?_ ?_<;>intro h<;>try simp only [h]|((fail_if_success refine Wz.h ?_);first|simp (disch:=omega) only [↓LD,LA,a0A,seval]|(refine And.intro ?_ ?_;omega)|simp only [D.int,D.bool]))
    exact end1 rfl rfl (by kernel_rfl) .f (hQ _ _ rfl rfl)
  · rw [if_neg (show ¬ 200<s1.id+1 by omega),if_neg (fun hh=>hh (show (a0I s1 e2).1=0 by assumption))] at hQ
    obtain rfl:out=[]:=List.eq_nil_of_length_eq_zero (by assumption)
    refine HS.view (View.fixb (xs:=[D.int (a0I s1 e2).2.id,D.int (a0I s1 e2).2.ver,D.int (a0I s1 e2).2.time,D.int (a0I s1 e2).2.closed,D.bool (a0I s1 e2).2.cancel,.f (fG (a0I s1 e2).2.defs),.f (fNn (a0I s1 e2).2.nodes),.f (fTm (a0I s1 e2).2.tms),.f (fSg (a0I s1 e2).2.sgs),D.int ver,D.int now,.sl 8 0 2]) (ys:=([]++[e1,e2]).flatMap Ev.cs) 0 11 8 rfl rfl rfl i0g (by omega) a0J (by omega)) ?_
    repeat' (with_reducible first|refine Wx.h ?_|refine Wb.h fun K hK=>?_|(refine hK _ ?_;clear hK K)|(refine wT ?_ ?_;assumption)|(refine wF ?_ ?_;assumption)|(refine Wy.h ?_ ?_;kernel_rfl)|refine Wq.h ?_ ?_<;>intro h<;>try (exfalso;omega)|refine Wu.h ?_ ?_<;>intro h<;>try simp only [h]|((fail_if_success refine Wz.h ?_);first|simp (disch:=omega) only [↓LD,LA,a0A,seval]|(refine And.intro ?_ ?_;omega)|simp only [D.int,D.bool]))
    exact end1 rfl rfl (by kernel_rfl) .f (hQ _ _ rfl rfl)
  · rw [if_neg (show ¬ 200<s1.id+1 by omega),if_neg (fun hh=>hh (show (a0I s1 e2).1=0 by assumption))] at hQ
    rw [e1r,show out.length+2=(out++[e1,e2]).length by simp]
    refine HS.view (View.fixb 0 11 9 rfl rfl rfl i0g (by simp) a0J (by omega)) ?_
    repeat' (with_reducible first|refine Wx.h ?_|refine Wb.h fun K hK=>?_|(refine hK _ ?_;clear hK K)|(refine wT ?_ ?_;assumption)|(refine wF ?_ ?_;assumption)|(refine Wy.h ?_ ?_;kernel_rfl)|refine Wq.h ?_ ?_<;>intro h<;>try (exfalso;omega)|refine Wu.h ?_ ?_<;>intro h<;>try simp only [h]|((fail_if_success refine Wz.h ?_);first|simp (disch:=omega) only [↓LD,LA,a0A,seval]|(refine And.intro ?_ ?_;omega)|simp only [D.int,D.bool]))
    exact end1 rfl rfl (by kernel_rfl) .f (hQ _ _ rfl rfl)
  · rw [if_neg (show ¬ 200<s1.id+1 by omega),if_pos (show (a0I s1 e2).1≠0 by assumption)] at hQ
    repeat' (with_reducible first|refine Wx.h ?_|refine Wb.h fun K hK=>?_|(refine hK _ ?_;clear hK K)|(refine wT ?_ ?_;assumption)|(refine wF ?_ ?_;assumption)|(refine Wy.h ?_ ?_;kernel_rfl)|refine Wq.h ?_ ?_<;>intro h<;>try (exfalso;omega)|refine Wu.h ?_ ?_<;>intro h<;>try simp only [h]|((fail_if_success refine Wz.h ?_);first|simp (disch:=omega) only [↓LD,LA,a0A,seval]|(refine And.intro ?_ ?_;omega)|simp only [D.int,D.bool]))
    exact end1 rfl rfl (by kernel_rfl) .f (hQ _ _ rfl rfl)
instance:Kn (([]:Bs).length≤1000000):=⟨by simp⟩
instance:Kn (Fit []):=⟨by simp [Fit]⟩
instance {s:S12}{ver now:Int}{out:List Ev}{H:List Row}{K:D→List Row→Prop}{a b c ty node n:Int}{nm dt df:D}{nm' dt':Bs}{df':List Nd}[h1:StrC nm nm'][h2:DatC dt dt'][h3:DefC df df'][ho:Kn (Ok12 s)][hl:Kn (out.length≤1000000)][k1:Kn (nm'.length≤1000000)][k2:Kn (dt'.length≤1000000)][k3:Kn (Fit df')] :
  Wa (a0R Tryz.prog (.fn 132 []) [.pt 0 0,.ag [.f (.v (.int .i64 a)),.f (.v (.int .i64 b)),.f (.v (.int .i64 c)),.f (.v (.int .i64 ty)),.f (.v (.int .i64 node)),.f (.v (.int .i64 n)),nm,dt,df]]
   (.box 121 [.f (.v (.int .i64 s.id)),.f (.v (.int .i64 s.ver)),.f (.v (.int .i64 s.time)),.f (.v (.int .i64 s.closed)),.f (.v (.bool s.cancel)),.f (fG s.defs),.f (fNn s.nodes),.f (fTm s.tms),.f (fSg s.sgs),.f (.v (.int .i64 ver)),.f (.v (.int .i64 now)),.f (fEv out)] :: H) K)
  (K (.f (.v (.int .i64 (a0P ⟨s,ver,now,out⟩ ⟨a,b,c,ty,node,n,nm',dt',df'⟩).1))) (pnB (a0P ⟨s,ver,now,out⟩ ⟨a,b,c,ty,node,n,nm',dt',df'⟩).2 :: H)):=⟨fun h=>by
 obtain ⟨h1⟩:=h1;obtain ⟨h2⟩:=h2;obtain ⟨h3⟩:=h3
 subst h1
 refine d0I (args0:=[.pt 0 0,evD ⟨a,b,c,ty,node,n,nm',dt',df'⟩]) ?_ (.cons .refl (.cons (WD.ags (.cons .refl (.cons .refl (.cons .refl (.cons .refl (.cons .refl (.cons .refl (.cons .refl (.cons h2 (.cons h3 .nil)))))))))) .nil))
 exact b0j (s0G ⟨s,ver,now,out⟩ ⟨a,b,c,ty,node,n,nm',dt',df'⟩ ho.h ⟨k2.h,k1.h,k3.h⟩ hl.h) rfl rfl (fun _=>rfl) (fun _=>rfl) (fun _=>rfl) (fun _=>rfl) h⟩
def f0v (s:S12):Int:=if s.id=0 then 3 else if s.closed≠0 then 12 else 0
theorem x0g (p:Pn):Con Tryz.prog 153 [.pt 0 0] [pnB p] fun r H'=>r=D.int (f0v p.s)∧H'=[pnB p]:=by
 refine Con.walk good s0u (by simp) ?_
 unfold l0d
 simp only [a0K,pnB,pnD]
 repeat' (with_reducible first|refine Wx.h ?_|refine Wb.h fun K hK=>?_|(refine hK _ ?_;clear hK K)|(refine wT ?_ ?_;assumption)|(refine wF ?_ ?_;assumption)|(refine Wy.h ?_ ?_;kernel_rfl)|refine Wq.h ?_ ?_<;>intro h<;>try (exfalso;omega)|refine Wu.h ?_ ?_<;>intro h<;>try simp only [h]|((fail_if_success refine Wz.h ?_);first|simp (disch:=omega) only [↓LD,LA,a0A,seval]|(refine And.intro ?_ ?_;omega)|simp only [D.int,D.bool]))
 all_goals (refine end1 rfl rfl (by kernel_rfl) .f ⟨congrArg D.int ?_,rfl⟩;simp [f0v, *])
instance {s:S12}{ver now:Int}{out:List Ev}{H:List Row}{K:D→List Row→Prop} :
  Wa (a0R Tryz.prog (.fn 153 []) [.pt 0 0]
   (.box 121 [.f (.v (.int .i64 s.id)),.f (.v (.int .i64 s.ver)),.f (.v (.int .i64 s.time)),.f (.v (.int .i64 s.closed)),.f (.v (.bool s.cancel)),.f (fG s.defs),.f (fNn s.nodes),.f (fTm s.tms),.f (fSg s.sgs),.f (.v (.int .i64 ver)),.f (.v (.int .i64 now)),.f (fEv out)] :: H) K)
  (K (.f (.v (.int .i64 (f0v s)))) (.box 121 [.f (.v (.int .i64 s.id)),.f (.v (.int .i64 s.ver)),.f (.v (.int .i64 s.time)),.f (.v (.int .i64 s.closed)),.f (.v (.bool s.cancel)),.f (fG s.defs),.f (fNn s.nodes),.f (fTm s.tms),.f (fSg s.sgs),.f (.v (.int .i64 ver)),.f (.v (.int .i64 now)),.f (fEv out)] :: H)):=⟨fun h =>
 b0j (x0g ⟨s,ver,now,out⟩) rfl rfl (fun _=>rfl) (fun _=>rfl) (fun _=>rfl) (fun _=>rfl) h⟩
instance {s:S12}{H:List Row}{K:D→List Row→Prop}[hs:Kn (Wk12 s)]:Wa (a0R Tryz.prog (.fn 147 []) [.ag [.f (.v (.int .i64 s.id)),.f (.v (.int .i64 s.ver)),.f (.v (.int .i64 s.time)),.f (.v (.int .i64 s.closed)),.f (.v (.bool s.cancel)),.f (fG s.defs),.f (fNn s.nodes),.f (fTm s.tms),.f (fSg s.sgs)]] H K)
  (K (.f (fI (a0a s))) H):=⟨fun h=>a0C (g0S s hs.h.fit.defs hs.h.pos hs.h.fit.fit.nodes hs.h.len) rfl rfl rfl h⟩
instance {s:S12}{nm:Bs}{H:List Row}{K:D→List Row→Prop}[hs:Kn (Wk12 s)]:Wa (a0R Tryz.prog (.fn 30 []) [.ag [.f (.v (.int .i64 s.id)),.f (.v (.int .i64 s.ver)),.f (.v (.int .i64 s.time)),.f (.v (.int .i64 s.closed)),.f (.v (.bool s.cancel)),.f (fG s.defs),.f (fNn s.nodes),.f (fTm s.tms),.f (fSg s.sgs)],.f (.v (.string (BB nm)))] H K)
  (K (.f (.v (.bool (c0i s.sgs nm)))) H):=⟨fun h=>a0C (j0E s nm hs.h.fit.fit.sgs) rfl rfl rfl h⟩
def b0l (p:Pn)(ds:List Nd):Int × Pn:=if 0<p.s.id then (13,p) else if a0p ds≠0 then (a0p ds,p) else a0P p ⟨0,0,0,1,0,0,[],[],ds⟩
theorem end3 {n0 n t u v:Nat}{e:List (Nat × D)}{H:List Row}{dr:List Nat}{d f g:F}{Q:D→List Row→Prop}(ht:Nat.blt t n=true)(hu:Nat.blt u n=true)(hv:Nat.blt v n=true)(h:look t e = .f d)(k:look u e = .f f)(m:look v e = .f g)(hl:lowB n0 (H.take n0)=true)(q:Q (.tp [.f d,.f f,.f g]) (H.take n0)):RetS n0 [.t t,.t u,.t v] Q ⟨frm n e,H,dr⟩:=by
 refine .still (ds:=[.f d,.f f,.f g]) ?_ hl (.tps (.cons .f (.cons .f (.cons .f .nil)))) q
 simp only [resS]
 rw [c0A (by simpa using ht),c0A (by simpa using hu),c0A (by simpa using hv),h,k,m]
theorem e0p (p:Pn)(ds:List Nd)(ho:Ok12 p.s)(hl:p.out.length≤1000000)(hf:Fit ds):Con Tryz.prog 89 [.pt 0 0,.f (fG ds)] [pnB p] fun r H'=>r=D.int (b0l p ds).1∧H'=[pnB (b0l p ds).2]:=by
 obtain ⟨s,ver,now,out⟩:=p
 suffices hh:∀ Q:D→List Row→Prop,(∀ r H',r=D.int (b0l ⟨s,ver,now,out⟩ ds).1→H'=[pnB (b0l ⟨s,ver,now,out⟩ ds).2]→Q r H')→Con Tryz.prog 89 [.pt 0 0,.f (fG ds)] [pnB ⟨s,ver,now,out⟩] Q from hh _ fun _ _ h1 h2=>⟨h1,h2⟩
 intro Q hQ
 dsimp only at ho hl
 haveI:Kn (Ok12 s):=⟨ho⟩
 haveI:Kn (Wk12 s):=⟨ho.wk⟩
 haveI:Kn (out.length≤1000000):=⟨hl⟩
 haveI:Kn (Fit ds):=⟨hf⟩
 refine Con.walk good r0o (by simp) ?_
 unfold j0V
 simp only [a0K,pnB,pnD]
 repeat' (with_reducible first|refine Wx.h ?_|refine Wb.h fun K hK=>?_|(refine hK _ ?_;clear hK K)|(refine wT ?_ ?_;assumption)|(refine wF ?_ ?_;assumption)|(refine Wy.h ?_ ?_;kernel_rfl)|refine Wq.h ?_ ?_<;>intro h<;>try (exfalso;omega)|refine Wu.h ?_ ?_<;>intro h<;>try simp only [h]|((fail_if_success refine Wz.h ?_);first|simp (disch:=omega) only [↓LD,LA,a0A,seval]|(refine And.intro ?_ ?_;omega)|simp only [D.int,D.bool]))
 all_goals exact end1 rfl rfl (by kernel_rfl) .f (hQ _ _ (by simp only [b0l,ne_eq, *,not_false_eq_true,not_true_eq_false,↓reduceIte,or_true,true_or,or_false,false_or,or_self,Bool.false_eq_true,Bool.true_eq_false,and_true,true_and,and_false,false_and]<;>rfl) (by simp only [b0l,ne_eq, *,not_false_eq_true,not_true_eq_false,↓reduceIte,or_true,true_or,or_false,false_or,or_self,Bool.false_eq_true,Bool.true_eq_false,and_true,true_and,and_false,false_and]<;>rfl))
theorem z0x {s:S12}(h:Ok12 s)(hn:(a0a s).length≠0):0≤gt (a0a s) 0∧gt (a0a s) 0<s.nodes.length∧0≤(gt s.nodes (gt (a0a s) 0).toNat).tr∧(gt s.nodes (gt (a0a s) 0).toNat).tr≤5:=by
 have hm:=a0L (l:=a0a s) (k:=0) (by omega)
 have h1:=p0y hm
 have h2:=g0B h1.2.2.2.2
 have h3:=h.tr _ (a0L (l:=s.nodes) (k:=(gt (a0a s) 0).toNat) (by omega))
 exact ⟨by omega,h1.1,h3.1,h3.2⟩
def tri (x:Int × Int × Int):List D:=[D.int x.1,D.int x.2.1,D.int x.2.2]
def c0G (p:Pn):(Int × Int × Int) × Pn :=
 if f0v p.s≠0 then ((0,0,f0v p.s),p) else if ((a0a p.s).length:Int)=0 then ((0,0,3),p)
 else if (a0P p ⟨0,0,0,2,gt (a0a p.s) 0,(gt p.s.nodes (gt (a0a p.s) 0).toNat).tr+1,[],[],[]⟩).1≠0 then ((0,0,(a0P p ⟨0,0,0,2,gt (a0a p.s) 0,(gt p.s.nodes (gt (a0a p.s) 0).toNat).tr+1,[],[],[]⟩).1),(a0P p ⟨0,0,0,2,gt (a0a p.s) 0,(gt p.s.nodes (gt (a0a p.s) 0).toNat).tr+1,[],[],[]⟩).2)
 else ((gt (a0a p.s) 0,(gt p.s.nodes (gt (a0a p.s) 0).toNat).tr+1,0),(a0P p ⟨0,0,0,2,gt (a0a p.s) 0,(gt p.s.nodes (gt (a0a p.s) 0).toNat).tr+1,[],[],[]⟩).2)
theorem t0R (p:Pn)(ho:Ok12 p.s)(hl:p.out.length≤1000000):Con Tryz.prog 115 [.pt 0 0] [pnB p] fun r H'=>r = .tp (tri (c0G p).1)∧H'=[pnB (c0G p).2]:=by
 obtain ⟨s,ver,now,out⟩:=p
 suffices hh:∀ Q:D→List Row→Prop,(∀ r H',r = .tp (tri (c0G ⟨s,ver,now,out⟩).1)→H'=[pnB (c0G ⟨s,ver,now,out⟩).2]→Q r H')→Con Tryz.prog 115 [.pt 0 0] [pnB ⟨s,ver,now,out⟩] Q from hh _ fun _ _ h1 h2=>⟨h1,h2⟩
 intro Q hQ
 dsimp only at ho hl
 haveI:Kn (Ok12 s):=⟨ho⟩
 haveI:Kn (Wk12 s):=⟨ho.wk⟩
 haveI:Kn (out.length≤1000000):=⟨hl⟩
 have hg:=fun h=>z0x ho h
 refine Con.walk good p0Y (by simp) ?_
 unfold j0L
 simp only [a0K,pnB,pnD]
 repeat' (with_reducible first|refine Wx.h ?_|refine We.h fun K hK=>?_|refine Wd.h fun K M hK hM=>?_|(refine hK _ _ _ _ ?_;clear hK K;try clear hM M)|(refine hM ?_;clear hM M;try clear hK K)|refine Wb.h fun K hK=>?_|(refine hK _ ?_;clear hK K)|(refine wT ?_ ?_;assumption)|(refine wF ?_ ?_;assumption)|(refine Wy.h ?_ ?_;kernel_rfl)|refine Wq.h ?_ ?_<;>intro h<;>try (exfalso;omega)|refine Wu.h ?_ ?_<;>intro h<;>try simp only [h]|((fail_if_success refine Wz.h ?_);first|simp (disch:=omega) only [↓LD,LA,a0A,seval,LSt,g0V,a0h,Nn.cs]|(refine And.intro ?_ ?_;omega)|simp only [D.int,D.bool]))
 all_goals exact end3 rfl rfl rfl rfl rfl rfl (by kernel_rfl) (hQ _ _ (by simp only [c0G,tri,ne_eq, *,not_false_eq_true,not_true_eq_false,↓reduceIte,or_true,true_or,or_false,false_or,or_self,Bool.false_eq_true,Bool.true_eq_false,and_true,true_and,and_false,false_and]<;>rfl) (by simp only [c0G,tri,ne_eq, *,not_false_eq_true,not_true_eq_false,↓reduceIte,or_true,true_or,or_false,false_or,or_self,Bool.false_eq_true,Bool.true_eq_false,and_true,true_and,and_false,false_and]<;>rfl))
def b0U (p:Pn)(node try_:Int)(ok:Bool)(data:Bs):Int × Pn :=
 if f0v p.s≠0 then (f0v p.s,p) else if node<0 then (1,p) else if (p.s.nodes.length:Int)≤node then (1,p) else if (40:Int)<data.length then (1,p) else if ok=false∧(0:Int)<data.length then (1,p)
 else if ¬ (gt p.s.nodes node.toNat).st=1 then (4,p) else if ¬ (gt p.s.nodes node.toNat).tr=try_ then (4,p)
 else if ok=true then a0P p ⟨0,0,0,3,node,try_,[],data,[]⟩ else a0P p ⟨0,0,0,4,node,try_,[],[],[]⟩
theorem o0l (p:Pn)(node:Int)(try_:Int)(ok:Bool)(data:Bs)(ho:Ok12 p.s)(hl:p.out.length≤1000000)(hd:data.length≤1000000):Con Tryz.prog 116 [.pt 0 0,D.int node,D.int try_,D.bool ok,.f (fY data)] [pnB p] fun r H'=>r=D.int (b0U p node try_ ok data).1∧H'=[pnB (b0U p node try_ ok data).2]:=by
 obtain ⟨s,ver,now,out⟩:=p
 suffices hh:∀ Q:D→List Row→Prop,(∀ r H',r=D.int (b0U ⟨s,ver,now,out⟩ node try_ ok data).1→H'=[pnB (b0U ⟨s,ver,now,out⟩ node try_ ok data).2]→Q r H')→Con Tryz.prog 116 [.pt 0 0,D.int node,D.int try_,D.bool ok,.f (fY data)] [pnB ⟨s,ver,now,out⟩] Q from hh _ fun _ _ h1 h2=>⟨h1,h2⟩
 intro Q hQ
 dsimp only at ho hl
 haveI:Kn (Ok12 s):=⟨ho⟩
 haveI:Kn (Wk12 s):=⟨ho.wk⟩
 haveI:Kn (out.length≤1000000):=⟨hl⟩
 haveI:Kn (data.length≤1000000):=⟨hd⟩
 refine Con.walk good o0V (by simp) ?_
 unfold g0p
 simp only [a0K,pnB,pnD]
 cases ok
 all_goals
  repeat' (with_reducible first|refine Wx.h ?_|refine We.h fun K hK=>?_|refine Wd.h fun K M hK hM=>?_|(refine hK _ _ _ _ ?_;clear hK K;try clear hM M)|(refine hM ?_;clear hM M;try clear hK K)|refine Wb.h fun K hK=>?_|(refine hK _ ?_;clear hK K)|(refine wT ?_ ?_;assumption)|(refine wF ?_ ?_;assumption)|(refine Wy.h ?_ ?_;kernel_rfl)|refine Wq.h ?_ ?_<;>intro h<;>try (exfalso;omega)|refine Wu.h ?_ ?_<;>intro h<;>try simp only [h]|((fail_if_success refine Wz.h ?_);first|simp (disch:=omega) only [↓LD,LA,a0A,seval,LSt,b0u,g0V,a0h,Nn.cs]|(refine And.intro ?_ ?_;omega)|simp only [D.int,D.bool]))
 all_goals exact end1 rfl rfl (by kernel_rfl) .f (hQ _ _ (by simp only [b0U,ne_eq, *,not_false_eq_true,not_true_eq_false,↓reduceIte,or_true,true_or,or_false,false_or,or_self,Bool.false_eq_true,Bool.true_eq_false,and_true,true_and,and_false,false_and]<;>rfl) (by simp only [b0U,ne_eq, *,not_false_eq_true,not_true_eq_false,↓reduceIte,or_true,true_or,or_false,false_or,or_self,Bool.false_eq_true,Bool.true_eq_false,and_true,true_and,and_false,false_and]<;>rfl))
def armP (p:Pn)(name:Bs)(span:Int):Int × Pn :=
 if f0v p.s≠0 then (f0v p.s,p) else if (!e0D name)=true then (1,p) else if span<1 then (1,p) else if 1048576<span then (1,p) else a0P p ⟨0,0,0,5,0,span,name,[],[]⟩
theorem b1T (p:Pn)(name:Bs)(span:Int)(ho:Ok12 p.s)(hl:p.out.length≤1000000)(hd:name.length≤1000000):Con Tryz.prog 118 [.pt 0 0,.f (.v (.string (BB name))),D.int span] [pnB p] fun r H'=>r=D.int (armP p name span).1∧H'=[pnB (armP p name span).2]:=by
 obtain ⟨s,ver,now,out⟩:=p
 suffices hh:∀ Q:D→List Row→Prop,(∀ r H',r=D.int (armP ⟨s,ver,now,out⟩ name span).1→H'=[pnB (armP ⟨s,ver,now,out⟩ name span).2]→Q r H')→Con Tryz.prog 118 [.pt 0 0,.f (.v (.string (BB name))),D.int span] [pnB ⟨s,ver,now,out⟩] Q from hh _ fun _ _ h1 h2=>⟨h1,h2⟩
 intro Q hQ
 dsimp only at ho hl
 haveI:Kn (Ok12 s):=⟨ho⟩
 haveI:Kn (Wk12 s):=⟨ho.wk⟩
 haveI:Kn (out.length≤1000000):=⟨hl⟩
 haveI:Kn (name.length≤1000000):=⟨hd⟩
 refine Con.walk good x0D (by simp) ?_
 unfold p0P
 simp only [a0K,pnB,pnD]
 repeat' (with_reducible first|refine Wx.h ?_|refine We.h fun K hK=>?_|refine Wd.h fun K M hK hM=>?_|(refine hK _ _ _ _ ?_;clear hK K;try clear hM M)|(refine hM ?_;clear hM M;try clear hK K)|refine Wb.h fun K hK=>?_|(refine hK _ ?_;clear hK K)|(refine wT ?_ ?_;assumption)|(refine wF ?_ ?_;assumption)|(refine Wy.h ?_ ?_;kernel_rfl)|refine Wq.h ?_ ?_<;>intro h<;>try (exfalso;omega)|refine Wu.h ?_ ?_<;>intro h<;>try simp only [h]|((fail_if_success refine Wz.h ?_);first|simp (disch:=omega) only [↓LD,LA,a0A,seval]|(refine And.intro ?_ ?_;omega)|simp only [D.int,D.bool]))
 all_goals exact end1 rfl rfl (by kernel_rfl) .f (hQ _ _ (by simp only [armP,ne_eq, *,not_false_eq_true,not_true_eq_false,↓reduceIte,or_true,true_or,or_false,false_or,or_self,Bool.false_eq_true,Bool.true_eq_false,and_true,true_and,and_false,false_and]<;>rfl) (by simp only [armP,ne_eq, *,not_false_eq_true,not_true_eq_false,↓reduceIte,or_true,true_or,or_false,false_or,or_self,Bool.false_eq_true,Bool.true_eq_false,and_true,true_and,and_false,false_and]<;>rfl))
def a0v (p:Pn)(name data:Bs):(Bool × Int) × Pn :=
 if p.s.id=0 then ((false,3),p) else if (!e0D name)=true then ((false,1),p) else if (40:Int)<data.length then ((false,1),p) else if c0i p.s.sgs name=true then ((false,0),p) else if p.s.closed≠0 then ((false,12),p)
 else if (a0P p ⟨0,0,0,7,0,0,name,data,[]⟩).1≠0 then ((false,(a0P p ⟨0,0,0,7,0,0,name,data,[]⟩).1),(a0P p ⟨0,0,0,7,0,0,name,data,[]⟩).2) else ((true,0),(a0P p ⟨0,0,0,7,0,0,name,data,[]⟩).2)
def duo (x:Bool × Int):List D:=[D.bool x.1,D.int x.2]
theorem e0F (p:Pn)(name:Bs)(data:Bs)(ho:Ok12 p.s)(hl:p.out.length≤1000000)(hn:name.length≤1000000)(hd:data.length≤1000000):Con Tryz.prog 91 [.pt 0 0,.f (.v (.string (BB name))),.f (fY data)] [pnB p] fun r H'=>r = .tp (duo (a0v p name data).1)∧H'=[pnB (a0v p name data).2]:=by
 obtain ⟨s,ver,now,out⟩:=p
 suffices hh:∀ Q:D→List Row→Prop,(∀ r H',r = .tp (duo (a0v ⟨s,ver,now,out⟩ name data).1)→H'=[pnB (a0v ⟨s,ver,now,out⟩ name data).2]→Q r H')→Con Tryz.prog 91 [.pt 0 0,.f (.v (.string (BB name))),.f (fY data)] [pnB ⟨s,ver,now,out⟩] Q from hh _ fun _ _ h1 h2=>⟨h1,h2⟩
 intro Q hQ
 dsimp only at ho hl
 haveI:Kn (Ok12 s):=⟨ho⟩
 haveI:Kn (Wk12 s):=⟨ho.wk⟩
 haveI:Kn (out.length≤1000000):=⟨hl⟩
 haveI:Kn (name.length≤1000000):=⟨hn⟩
 haveI:Kn (data.length≤1000000):=⟨hd⟩
 refine Con.walk good n0q (by simp) ?_
 unfold h0T
 simp only [a0K,pnB,pnD]
 repeat' (with_reducible first|refine Wx.h ?_|refine We.h fun K hK=>?_|refine Wd.h fun K M hK hM=>?_|(refine hK _ _ _ _ ?_;clear hK K;try clear hM M)|(refine hM ?_;clear hM M;try clear hK K)|refine Wb.h fun K hK=>?_|(refine hK _ ?_;clear hK K)|(refine wT ?_ ?_;assumption)|(refine wF ?_ ?_;assumption)|(refine Wy.h ?_ ?_;kernel_rfl)|refine Wq.h ?_ ?_<;>intro h<;>try (exfalso;omega)|refine Wu.h ?_ ?_<;>intro h<;>try simp only [h]|((fail_if_success refine Wz.h ?_);first|simp (disch:=omega) only [↓LD,LA,a0A,seval]|(refine And.intro ?_ ?_;omega)|simp only [D.int,D.bool]))
 all_goals exact end2 rfl rfl rfl rfl (by kernel_rfl) (.tps (.cons .f (.cons .f .nil))) (hQ _ _ (by simp only [a0v,duo,ne_eq, *,not_false_eq_true,not_true_eq_false,↓reduceIte,or_true,true_or,or_false,false_or,or_self,Bool.false_eq_true,Bool.true_eq_false,and_true,true_and,and_false,false_and]<;>rfl) (by first|(unfold a0v;rw [if_pos (by assumption)];try rfl)|simp only [a0v,duo,ne_eq, *,not_false_eq_true,not_true_eq_false,↓reduceIte,or_true,true_or,or_false,false_or,or_self,Bool.false_eq_true,Bool.true_eq_false,and_true,true_and,and_false,false_and]<;>rfl))
def b0h (p:Pn):Int × Pn:=if f0v p.s≠0 then (f0v p.s,p) else a0P p ⟨0,0,0,8,0,0,[],[],[]⟩
theorem q0q (p:Pn)(ho:Ok12 p.s)(hl:p.out.length≤1000000):Con Tryz.prog 120 [.pt 0 0] [pnB p] fun r H'=>r=D.int (b0h p).1∧H'=[pnB (b0h p).2]:=by
 obtain ⟨s,ver,now,out⟩:=p
 suffices hh:∀ Q:D→List Row→Prop,(∀ r H',r=D.int (b0h ⟨s,ver,now,out⟩).1→H'=[pnB (b0h ⟨s,ver,now,out⟩).2]→Q r H')→Con Tryz.prog 120 [.pt 0 0] [pnB ⟨s,ver,now,out⟩] Q from hh _ fun _ _ h1 h2=>⟨h1,h2⟩
 intro Q hQ
 dsimp only at ho hl
 haveI:Kn (Ok12 s):=⟨ho⟩
 haveI:Kn (Wk12 s):=⟨ho.wk⟩
 haveI:Kn (out.length≤1000000):=⟨hl⟩
 refine Con.walk good o0T (by simp) ?_
 unfold g0s
 simp only [a0K,pnB,pnD]
 repeat' (with_reducible first|refine Wx.h ?_|refine We.h fun K hK=>?_|refine Wd.h fun K M hK hM=>?_|(refine hK _ _ _ _ ?_;clear hK K;try clear hM M)|(refine hM ?_;clear hM M;try clear hK K)|refine Wb.h fun K hK=>?_|(refine hK _ ?_;clear hK K)|(refine wT ?_ ?_;assumption)|(refine wF ?_ ?_;assumption)|(refine Wy.h ?_ ?_;kernel_rfl)|refine Wq.h ?_ ?_<;>intro h<;>try (exfalso;omega)|refine Wu.h ?_ ?_<;>intro h<;>try simp only [h]|((fail_if_success refine Wz.h ?_);first|simp (disch:=omega) only [↓LD,LA,a0A,seval]|(refine And.intro ?_ ?_;omega)|simp only [D.int,D.bool]))
 all_goals exact end1 rfl rfl (by kernel_rfl) .f (hQ _ _ (by simp only [b0h,ne_eq, *,not_false_eq_true,not_true_eq_false,↓reduceIte,or_true,true_or,or_false,false_or,or_self,Bool.false_eq_true,Bool.true_eq_false,and_true,true_and,and_false,false_and]<;>rfl) (by simp only [b0h,ne_eq, *,not_false_eq_true,not_true_eq_false,↓reduceIte,or_true,true_or,or_false,false_or,or_self,Bool.false_eq_true,Bool.true_eq_false,and_true,true_and,and_false,false_and]<;>rfl))
def f0V (p:Pn):Int × Pn:=if f0v p.s≠0 then (f0v p.s,p) else a0P p ⟨0,0,0,12,0,0,[],[],[]⟩
theorem j0s (p:Pn)(ho:Ok12 p.s)(hl:p.out.length≤1000000):Con Tryz.prog 121 [.pt 0 0] [pnB p] fun r H'=>r=D.int (f0V p).1∧H'=[pnB (f0V p).2]:=by
 obtain ⟨s,ver,now,out⟩:=p
 suffices hh:∀ Q:D→List Row→Prop,(∀ r H',r=D.int (f0V ⟨s,ver,now,out⟩).1→H'=[pnB (f0V ⟨s,ver,now,out⟩).2]→Q r H')→Con Tryz.prog 121 [.pt 0 0] [pnB ⟨s,ver,now,out⟩] Q from hh _ fun _ _ h1 h2=>⟨h1,h2⟩
 intro Q hQ
 dsimp only at ho hl
 haveI:Kn (Ok12 s):=⟨ho⟩
 haveI:Kn (Wk12 s):=⟨ho.wk⟩
 haveI:Kn (out.length≤1000000):=⟨hl⟩
 refine Con.walk good h0c (by simp) ?_
 unfold d0o
 simp only [a0K,pnB,pnD]
 repeat' (with_reducible first|refine Wx.h ?_|refine We.h fun K hK=>?_|refine Wd.h fun K M hK hM=>?_|(refine hK _ _ _ _ ?_;clear hK K;try clear hM M)|(refine hM ?_;clear hM M;try clear hK K)|refine Wb.h fun K hK=>?_|(refine hK _ ?_;clear hK K)|(refine wT ?_ ?_;assumption)|(refine wF ?_ ?_;assumption)|(refine Wy.h ?_ ?_;kernel_rfl)|refine Wq.h ?_ ?_<;>intro h<;>try (exfalso;omega)|refine Wu.h ?_ ?_<;>intro h<;>try simp only [h]|((fail_if_success refine Wz.h ?_);first|simp (disch:=omega) only [↓LD,LA,a0A,seval]|(refine And.intro ?_ ?_;omega)|simp only [D.int,D.bool]))
 all_goals exact end1 rfl rfl (by kernel_rfl) .f (hQ _ _ (by simp only [f0V,ne_eq, *,not_false_eq_true,not_true_eq_false,↓reduceIte,or_true,true_or,or_false,false_or,or_self,Bool.false_eq_true,Bool.true_eq_false,and_true,true_and,and_false,false_and]<;>rfl) (by simp only [f0V,ne_eq, *,not_false_eq_true,not_true_eq_false,↓reduceIte,or_true,true_or,or_false,false_or,or_self,Bool.false_eq_true,Bool.true_eq_false,and_true,true_and,and_false,false_and]<;>rfl))
def newE (l:List Ev)(ver now:Int):Int :=
 if (a0N s0 l).1≠0 then 1 else if (!verB ver)=true then 1 else if now<0 then 1 else if 1099511627776<now then 1 else if ver<(a0N s0 l).2.ver then 4 else 0
structure PnOk (b:S12)(p:Pn):Prop where
 base:Ok12 b
 ok:Ok12 p.s
 out:a0N b p.out=(0,p.s)
 fit:∀ e∈p.out,FitV e
theorem o0O:∀ {l:List Ev} {s:S12},(a0N s l).1=0→(a0N s l).2.id=s.id+l.length
 | [],s,_=>by simp [a0N]
 | e :: l,s,h=>by
  rw [a0N] at h ⊢
  by_cases a:(a0I s e).1=0
  ·rw [if_pos a] at h ⊢
   have h1:=o0O h
   obtain ⟨_,a2,_,_,_,_,_,a8⟩:=c0D a
   rw [h1,a8]
   simp only [List.length_cons]
   omega
  ·rw [if_neg a] at h;exact absurd h a
theorem PnOk.len {b:S12}{p:Pn}(h:PnOk b p):p.out.length≤200:=by
 have h1:=o0O (l:=p.out) (s:=b) (by rw [h.out])
 rw [h.out] at h1
 have h2:=h.ok.id
 have h3:=h.base.id
 dsimp only at h1
 omega
theorem a1x {b s t:S12}{l:List Ev}{e:Ev}(h:a0N b l=(0,s))(ha:(a0I s e).1=0)(ht:(a0I s e).2=t):a0N b (l++[e])=(0,t):=by
 rw [i0y (by rw [h]),h]
 dsimp only
 rw [a0N,if_pos ha,ht,a0N]
theorem PnOk.snoc {b s t:S12}{ver now:Int}{l:List Ev}{e:Ev}(h:PnOk b ⟨s,ver,now,l⟩)(he:FitV e)(ha:(a0I s e).1=0)(ht:(a0I s e).2=t):PnOk b ⟨t,ver,now,l++[e]⟩ :=
 ⟨h.base,by have:=c0U h.ok he.2.2.2 ha;rw [ht] at this;exact this,a1x h.out ha ht,fun x hx=>by
  rcases List.mem_append.1 hx with hx|hx
  ·exact h.fit x hx
  ·obtain rfl:=List.mem_singleton.1 hx;exact he⟩
theorem g1N (p:Pn)(k:Int):FitV (a0V p (ev0 k)):=⟨by simp [a0V,ev0],by simp [a0V,ev0],⟨by simp [a0V,ev0],by simp [a0V,ev0]⟩⟩
theorem f0m (p:Pn)(e:Ev):((a0P p e).1≠0∧(a0P p e).2=p) ∨
  ((a0P p e).1=0∧p.s.id<200∧(a0I p.s (a0V p e)).1=0∧a0Y (a0I p.s (a0V p e)).2=0∧(a0P p e).2={ p with s:=(a0I p.s (a0V p e)).2,out:=p.out++[a0V p e] }) ∨
  ((a0P p e).1=0∧p.s.id<200∧(a0I p.s (a0V p e)).1=0∧a0Y (a0I p.s (a0V p e)).2≠0∧∃ f,f=a0V { p with s:=(a0I p.s (a0V p e)).2 } (ev0 (a0Y (a0I p.s (a0V p e)).2))∧(a0I (a0I p.s (a0V p e)).2 f).1=0 ∧
   (a0P p e).2={ p with s:=(a0I (a0I p.s (a0V p e)).2 f).2,out:=p.out++[a0V p e,f] }):=by
 unfold a0P
 by_cases a1:200<p.s.id+1
 ·rw [if_pos a1]
  refine .inl ?_
  split
  ·exact ⟨by assumption,rfl⟩
  ·exact ⟨by simp,rfl⟩
 rw [if_neg a1]
 by_cases a2:(a0I p.s (a0V p e)).1≠0
 ·rw [if_pos a2];exact .inl ⟨a2,rfl⟩
 rw [if_neg a2]
 have a3:=Decidable.not_not.1 a2
 unfold endP
 by_cases a4:a0Y (a0I p.s (a0V p e)).2≠0
 ·rw [if_pos a4]
  by_cases a5:200<(a0I p.s (a0V p e)).2.id+1
  ·rw [if_pos a5];exact .inl ⟨by simp,rfl⟩
  rw [if_neg a5]
  by_cases a6:(a0I (a0I p.s (a0V p e)).2 (a0V { p with s:=(a0I p.s (a0V p e)).2 } (ev0 (a0Y (a0I p.s (a0V p e)).2)))).1≠0
  ·rw [if_pos a6];exact .inl ⟨a6,rfl⟩
  rw [if_neg a6]
  exact .inr (.inr ⟨rfl,by omega,a3,a4,_,rfl,Decidable.not_not.1 a6,rfl⟩)
 ·rw [if_neg a4]
  exact .inr (.inl ⟨rfl,by omega,a3,Decidable.not_not.1 a4,rfl⟩)
theorem a0z {b:S12}{p:Pn}{e:Ev}(h:PnOk b p)(he:FitV e):PnOk b (a0P p e).2:=by
 obtain ⟨s,ver,now,out⟩:=p
 have hn:FitV (a0V ⟨s,ver,now,out⟩ e):=he
 rcases f0m ⟨s,ver,now,out⟩ e with ⟨_,h2⟩|⟨_,_,h2,_,h3⟩|⟨_,_,h2,_,f,hf,h3,h4⟩
 ·rw [h2];exact h
 ·rw [h3];exact h.snoc hn h2 rfl
 ·rw [h4]
  have h1:=(h.snoc hn h2 rfl).snoc (by rw [hf];exact g1N _ _) h3 rfl
  rw [List.append_assoc] at h1
  exact h1
theorem b0r {a b c ty node n:Int}{nm dt:Bs}{df:List Nd}(h1:nm.length≤1000000)(h2:dt.length≤1000000)(h3:Fit df):FitV ⟨a,b,c,ty,node,n,nm,dt,df⟩:=⟨h2,h1,h3⟩
theorem c0M:Fit []:=⟨by simp,by simp⟩
theorem y0I {b:S12}{p:Pn}{ds:List Nd}(h:PnOk b p)(hd:Fit ds):PnOk b (b0l p ds).2:=by
 unfold b0l
 split
 ·exact h
 ·split
  ·exact h
  ·exact a0z h (b0r (by simp) (by simp) hd)
theorem z0V {b:S12}{p:Pn}(h:PnOk b p):PnOk b (c0G p).2:=by
 unfold c0G
 split
 ·exact h
 ·split
  ·exact h
  ·split<;>exact a0z h (b0r (by simp) (by simp) c0M)
theorem x0A {b:S12}{p:Pn}{i t:Int}{ok:Bool}{d:Bs}(h:PnOk b p)(hd:d.length≤1000000):PnOk b (b0U p i t ok d).2:=by
 unfold b0U
 repeat' split
 all_goals first|exact h|exact a0z h (b0r (by simp) hd c0M)|exact a0z h (b0r (by simp) (by simp) c0M)
theorem e1N {b:S12}{p:Pn}{nm:Bs}{t:Int}(h:PnOk b p)(hn:nm.length≤1000000):PnOk b (armP p nm t).2:=by
 unfold armP
 repeat' split
 all_goals first|exact h|exact a0z h (b0r hn (by simp) c0M)
theorem x0j {b:S12}{p:Pn}{nm d:Bs}(h:PnOk b p)(hn:nm.length≤1000000)(hd:d.length≤1000000):PnOk b (a0v p nm d).2:=by
 unfold a0v
 repeat' split
 all_goals first|exact h|exact a0z h (b0r hn hd c0M)
theorem x0R {b:S12}{p:Pn}(h:PnOk b p):PnOk b (b0h p).2:=by
 unfold b0h
 split
 ·exact h
 ·exact a0z h (b0r (by simp) (by simp) c0M)
theorem b1l {b:S12}{p:Pn}(h:PnOk b p):PnOk b (f0V p).2:=by
 unfold f0V
 split
 ·exact h
 ·exact a0z h (b0r (by simp) (by simp) c0M)
theorem w0p {s:S12}{e:Ev}(h:e.ty≠1):(a0c s e).2.defs=s.defs:=by
 unfold a0c b0X a0g armL c0R a0b a0m
 rw [if_neg h]
 repeat' split
 all_goals rfl
theorem z0Z {s:S12}{e:Ev}(h5:e.ty≠5)(h6:e.ty≠6):(a0c s e).2.tms=s.tms:=by
 unfold a0c b0X a0b a0m
 rw [if_neg (show ¬ (e.ty=5∨e.ty=6) by omega)]
 repeat' split
 all_goals rfl
theorem e0u {s:S12}{e:Ev}(hi:s.id≠0)(h:(a0I s e).1=0):(a0I s e).2.defs=s.defs:=by
 obtain ⟨_,_,_,_,_,a6,_,a8⟩:=c0D h
 rw [a8]
 exact w0p (fun hh=>hi (a6.2 hh))
theorem t0W {b:S12}{p:Pn}{e:Ev}(hi:p.s.id≠0)(hp:0≤p.s.id):(a0P p e).2.s.defs=p.s.defs:=by
 rcases f0m p e with ⟨_,h2⟩|⟨_,_,h2,_,h3⟩|⟨_,_,h2,_,f,hf,h3,h4⟩
 ·rw [h2]
 ·rw [h3];exact e0u hi h2
 ·rw [h4]
  have h5:=e0u hi h2
  obtain ⟨_,a2,_,_,_,_,_,a8⟩:=c0D h2
  have h6:=e0u (s:=(a0I p.s (a0V p e)).2) (e:=f) (by rw [a8];dsimp only;omega) h3
  dsimp only
  rw [h6,h5]
theorem x0n {b:S12}{p:Pn}{e:Ev}(h:PnOk b p)(he:FitV e)(hi:p.s.id≠0):(a0P p e).2.s.nodes.length=p.s.nodes.length:=by
 have h1:=(a0z h he).ok.len
 rw [h1,t0W (b:=b) hi h.ok.id.1,h.ok.len]
def unf (l:List Tm):Nat:=l.countP fun x=>!x.fired
theorem e1a {l:List Tm}{j:Nat}(hj:j<l.length)(hf:(gt l j).fired=false):unf (l.set j { gt l j with fired:=true })<unf l:=by
 have hg:=b0R hj
 have hc:=List.countP_set (p:=fun x:Tm=>!x.fired) (l:=l) (i:=j) (a:={ gt l j with fired:=true }) hj
 have hp:(!l[j].fired)=true:=by rw [←hg,hf];try rfl
 have hpos:0<l.countP fun x=>!x.fired:=List.countP_pos_iff.2 ⟨l[j],List.getElem_mem hj,hp⟩
 unfold unf
 rw [hc]
 simp only [hp,Bool.not_true,if_true]
 simp
 omega
theorem v0J {s:S12}{e:Ev}(h6:e.ty=6)(h:(a0c s e).1=0):unf (a0c s e).2.tms<unf s.tms:=by
 unfold a0c a0g c0R at h ⊢
 rw [if_neg (by omega),if_neg (by omega),if_pos (.inr h6),if_neg (by omega)] at h ⊢
 by_cases a1:tmI s.tms e.name<0
 ·rw [if_pos a1] at h;cases h
 rw [if_neg a1] at h ⊢
 by_cases a2:(gt s.tms (tmI s.tms e.name).toNat).fired=true∨e.time<(gt s.tms (tmI s.tms e.name).toNat).due
 ·rw [if_pos a2] at h;cases h
 rw [if_neg a2]
 have:=u0X s.tms e.name
 exact e1a (by omega) (by cases hb:(gt s.tms (tmI s.tms e.name).toNat).fired with|false=>rfl|true=>exact absurd (.inl hb) a2)
theorem l0p {p:Pn}{nm:Bs}(h:(a0P p ⟨0,0,0,6,0,0,nm,[],[]⟩).1=0):unf (a0P p ⟨0,0,0,6,0,0,nm,[],[]⟩).2.s.tms<unf p.s.tms:=by
 rcases f0m p ⟨0,0,0,6,0,0,nm,[],[]⟩ with ⟨h1,h2⟩|⟨_,_,h2,_,h3⟩|⟨_,_,h2,_,f,hf,h3,h4⟩
 ·exact absurd h h1
 ·obtain ⟨_,_,_,_,_,_,a7,a8⟩:=c0D h2
  rw [h3,a8]
  exact v0J rfl a7
 ·obtain ⟨_,_,_,_,_,_,a7,a8⟩:=c0D h2
  obtain ⟨_,_,_,_,_,_,b7,b8⟩:=c0D h3
  have hk:=g0W (a0I p.s (a0V p ⟨0,0,0,6,0,0,nm,[],[]⟩)).2
  have ht:f.ty=a0Y (a0I p.s (a0V p ⟨0,0,0,6,0,0,nm,[],[]⟩)).2:=by rw [hf];try rfl
  rw [h4,b8]
  dsimp only
  rw [z0Z (by omega) (by omega),a8]
  exact v0J rfl a7
def d0i (now:Int):Nat→Nat→Pn→Int→Int × Pn × Bool
 | 0,_,p,n=>(n,p,false)
 | k+1,i,p,n =>
  if p.s.closed≠0 then (n,p,false)
  else if (gt p.s.nodes i).st≠1 then d0i now k (i+1) p n
  else if now<(gt p.s.nodes i).due then d0i now k (i+1) p n
  else if (a0P p ⟨0,0,0,4,i,(gt p.s.nodes i).tr,[],[],[]⟩).1≠0 then (n,(a0P p ⟨0,0,0,4,i,(gt p.s.nodes i).tr,[],[],[]⟩).2,true)
  else d0i now k (i+1) (a0P p ⟨0,0,0,4,i,(gt p.s.nodes i).tr,[],[],[]⟩).2 (n+1)
def f1g (a b:Bs):Bool:=Op.bytesLess (BB a).toList (BB b).toList
def befT (x y:Tm):Bool:=decide (x.due<y.due)||(decide (x.due=y.due)&&f1g x.name y.name)
def d0T (now:Int)(tms:List Tm):Nat→Int→List Tm→Int
 | _,k,[]=>k
 | i,k,x :: l =>
  if x.fired=true then d0T now tms (i+1) k l else if now<x.due then d0T now tms (i+1) k l
  else if k<0∨befT x (gt tms k.toNat)=true then d0T now tms (i+1) i l else d0T now tms (i+1) k l
def g0R (now:Int):Nat→Pn→Int→Int × Pn
 | 0,p,n=>(n,p)
 | f+1,p,n =>
  if p.s.closed≠0 then (n,p) else if d0T now p.s.tms 0 (-1) p.s.tms<0 then (n,p)
  else if (a0P p ⟨0,0,0,6,0,0,(gt p.s.tms (d0T now p.s.tms 0 (-1) p.s.tms).toNat).name,[],[]⟩).1≠0 then (n,(a0P p ⟨0,0,0,6,0,0,(gt p.s.tms (d0T now p.s.tms 0 (-1) p.s.tms).toNat).name,[],[]⟩).2)
  else g0R now f (a0P p ⟨0,0,0,6,0,0,(gt p.s.tms (d0T now p.s.tms 0 (-1) p.s.tms).toNat).name,[],[]⟩).2 (n+1)
def g0P (p:Pn):Int × Pn :=
 if (d0i (max p.now p.s.time) p.s.nodes.length 0 p 0).2.2=true then ((d0i (max p.now p.s.time) p.s.nodes.length 0 p 0).1,(d0i (max p.now p.s.time) p.s.nodes.length 0 p 0).2.1)
 else g0R (max p.now p.s.time) (unf (d0i (max p.now p.s.time) p.s.nodes.length 0 p 0).2.1.s.tms+1) (d0i (max p.now p.s.time) p.s.nodes.length 0 p 0).2.1 (d0i (max p.now p.s.time) p.s.nodes.length 0 p 0).1
theorem f0N (now:Int)(tms:List Tm):∀ (i:Nat) (k:Int) (l:List Tm),k<i+l.length→d0T now tms i k l<i+l.length
 | _,_,[],h=>h
 | i,k,x :: l,h=>by
  rw [d0T]
  simp only [List.length_cons] at h ⊢
  split
  ·have:=f0N now tms (i+1) k l (by omega);omega
  ·split
   ·have:=f0N now tms (i+1) k l (by omega);omega
   ·split
    ·have:=f0N now tms (i+1) i l (by omega);omega
    ·have:=f0N now tms (i+1) k l (by omega);omega
theorem f0d {b:S12}{now:Int}:∀ {k i:Nat} {p:Pn} {n:Int},PnOk b p→PnOk b (d0i now k i p n).2.1
 | 0,_,_,_,h=>h
 | k+1,i,p,n,h=>by
  rw [d0i]
  have hw:=a0z (e:=⟨0,0,0,4,i,(gt p.s.nodes i).tr,[],[],[]⟩) h (b0r (by simp) (by simp) c0M)
  split
  ·exact h
  ·split
   ·exact f0d h
   ·split
    ·exact f0d h
    ·split
     ·exact hw
     ·exact f0d hw
theorem v0r {b:S12}{now:Int}:∀ {f:Nat} {p:Pn} {n:Int},PnOk b p→PnOk b (g0R now f p n).2
 | 0,_,_,h=>h
 | f+1,p,n,h=>by
  rw [g0R]
  split
  ·exact h
  ·split
   ·exact h
   ·have hk:=f0N now p.s.tms 0 (-1) p.s.tms (by omega)
    have hn:=h.ok.tname _ (a0L (l:=p.s.tms) (k:=(d0T now p.s.tms 0 (-1) p.s.tms).toNat) (by omega))
    have hw:=a0z (e:=⟨0,0,0,6,0,0,(gt p.s.tms (d0T now p.s.tms 0 (-1) p.s.tms).toNat).name,[],[]⟩) h (b0r (by omega) (by simp) c0M)
    split
    ·exact hw
    ·exact v0r hw
theorem b1h {b:S12}{p:Pn}(h:PnOk b p):PnOk b (g0P p).2:=by
 unfold g0P
 split
 ·exact f0d h
 ·exact v0r (f0d h)
theorem HS.cutK {P:Program}{n:Nat}{c:SCode}{s:St}{Q:Out→St→Prop}(i:Nat){α:Type}(st:α→St)(p:α→Prop)
  (h1:∀ K:Out→St→Prop,(∀ y,p y→∀ s',View P n s' (st y)→K (.exit i) s')→(∀ s',Q .ret s'→K .ret s')→HS P n c s K) (h2:∀ y,p y→∀ s',View P n s' (st y)→Q (.exit i) s'):HS P n c s Q:=h1 Q h2 fun _ h=>h
theorem l0A {now:Int}:∀ {f g:Nat} {p:Pn} {n:Int},unf p.s.tms<f→unf p.s.tms<g→g0R now f p n=g0R now g p n
 | 0,_,_,_,h,_=>absurd h (by omega)
 | _,0,_,_,_,h=>absurd h (by omega)
 | f+1,g+1,p,n,hf,hg=>by
  rw [g0R,g0R]
  by_cases a1:p.s.closed≠0
  ·rw [if_pos a1,if_pos a1]
  rw [if_neg a1,if_neg a1]
  by_cases a2:d0T now p.s.tms 0 (-1) p.s.tms<0
  ·rw [if_pos a2,if_pos a2]
  rw [if_neg a2,if_neg a2]
  by_cases a3:(a0P p ⟨0,0,0,6,0,0,(gt p.s.tms (d0T now p.s.tms 0 (-1) p.s.tms).toNat).name,[],[]⟩).1≠0
  ·rw [if_pos a3,if_pos a3]
  rw [if_neg a3,if_neg a3]
  have:=l0p (Decidable.not_not.1 a3)
  exact l0A (by omega) (by omega)
set_option maxRecDepth 100000 in
theorem x0p (b:S12)(p:Pn)(h:PnOk b p):Con Tryz.prog 119 [.pt 0 0] [pnB p] fun r H'=>r=D.int (g0P p).1∧H'=[pnB (g0P p).2]:=by
  suffices hh:∀ Q:D→List Row→Prop,(∀ r H',r=D.int (g0P p).1→H'=[pnB (g0P p).2]→Q r H')→Con Tryz.prog 119 [.pt 0 0] [pnB p] Q from hh _ fun _ _ h1 h2=>⟨h1,h2⟩
  intro Q hQ
  unfold g0P at hQ
  refine Con.walk good s0j (by simp) ?_
  unfold m0f
  simp only [a0K,pnB,pnD]
  have hnl:=h.ok.wk.fit.fit.nodes
  generalize hN:max p.now p.s.time=N at hQ
  repeat' (with_reducible first|refine Wx.h ?_|refine We.h fun K hK=>?_|refine Wd.h fun K M hK hM=>?_|(refine hK _ _ _ _ ?_;clear hK K;try clear hM M)|(refine hM ?_;clear hM M;try clear hK K)|refine Wb.h fun K hK=>?_|(refine hK _ ?_;clear hK K)|(refine wT ?_ ?_;assumption)|(refine wF ?_ ?_;assumption)|(refine Wy.h ?_ ?_;kernel_rfl)|refine Wq.h ?_ ?_<;>intro h<;>try (exfalso;omega)|refine Wu.h ?_ ?_<;>intro h<;>try simp only [h]|((fail_if_success refine Wz.h ?_);first|simp (disch:=omega) only [↓LD,LA,a0A,seval,hN]|(refine And.intro ?_ ?_;omega)|simp only [D.int,D.bool]))
  refine HS.cutK 0 (fun x:Pn × Int=>⟨frm 163 [(0,.pt 0 0),(3,D.int x.2),(4,D.int N)],[pnB x.1],[]⟩) (fun x=>PnOk b x.1∧0≤x.2∧x.2≤1000000∧d0i N p.s.nodes.length 0 p 0=(x.2,x.1,false)) ?_ ?_
  · intro K hx hr
    refine HS.loopG [0,3,4,5] (fun x:Nat × Pn × Int=>⟨frm 163 [(0,.pt 0 0),(3,D.int x.2.2),(4,D.int N),(5,D.int x.1)],[pnB x.2.1],[]⟩)
      (fun x=>x.1≤p.s.nodes.length∧x.2.1.s.nodes.length=p.s.nodes.length∧PnOk b x.2.1∧0≤x.2.2∧x.2.2≤x.1∧d0i N p.s.nodes.length 0 p 0=d0i N (p.s.nodes.length-x.1) x.1 x.2.1 x.2.2) (fun x=>p.s.nodes.length-x.1) (0,p,0) (by kernel_rfl) ⟨Nat.zero_le _,rfl,h,by simp,by simp,rfl⟩ ?_
    rintro ⟨i,⟨s,ver,now,out⟩,n⟩ ⟨hi,hl,ho,hn0,hn1,hF⟩
    dsimp only at hi hl ho hn0 hn1 hF
    by_cases hil:i<p.s.nodes.length
    · rw [show p.s.nodes.length-i=(p.s.nodes.length-(i+1))+1 by omega,d0i] at hF
      dsimp only at hF
      have hok:=ho.ok
      have hid:s.id≠0:=fun hh=>by have:=hok.wk.zero.2 hh;dsimp only at this;omega
      have hlen:=ho.len
      haveI:Kn (Ok12 s):=⟨hok⟩
      haveI:Kn (out.length≤1000000):=⟨by dsimp only at hlen;omega⟩
      have hw:=a0z (e:=⟨0,0,0,4,i,(gt s.nodes i).tr,[],[],[]⟩) ho (b0r (by simp) (by simp) c0M)
      have hwl:=x0n (e:=⟨0,0,0,4,i,(gt s.nodes i).tr,[],[],[]⟩) ho (b0r (by simp) (by simp) c0M) hid
      repeat' (with_reducible first|refine Wx.h ?_|refine Wb.h fun K hK=>?_|(refine hK _ ?_;clear hK K)|(refine wT ?_ ?_;assumption)|(refine wF ?_ ?_;assumption)|(refine Wy.h ?_ ?_;kernel_rfl)|refine Wq.h ?_ ?_<;>intro h<;>try (exfalso;omega)|refine Wu.h ?_ ?_<;>intro h<;>try simp only [h]|((fail_if_success refine Wz.h ?_);first|simp (disch:=omega) only [↓LD,LA,a0A,seval,LSt,pnB,pnD,c0m,a0h,Nn.cs,-a0A,List.map_cons,List.map_nil]|(refine And.intro ?_ ?_;omega)|simp only [D.int,D.bool]))
      · rw [if_neg (fun hh=>hh (show s.closed=0 by assumption)),if_neg (fun hh=>hh (by assumption)),if_pos (by assumption)] at hF
        exact Next.mk (i+1,⟨s,ver,now,out⟩,n) (by kernel_rfl) ⟨by omega,hl,ho,hn0,by dsimp only;omega,hF⟩ (by dsimp only;omega)
      · have hz:(a0P ⟨s,ver,now,out⟩ ⟨0,0,0,4,i,(gt s.nodes i).tr,[],[],[]⟩).1=0:=by assumption
        rw [if_neg (fun hh=>hh (show s.closed=0 by assumption)),if_neg (fun hh=>hh (by assumption)),if_neg (by assumption),if_neg (fun hh=>hh hz)] at hF
        exact Next.mk (i+1,(a0P ⟨s,ver,now,out⟩ ⟨0,0,0,4,i,(gt s.nodes i).tr,[],[],[]⟩).2,n+1) (by kernel_rfl) ⟨by omega,hwl.trans hl,hw,by dsimp only;omega,by dsimp only;omega,hF⟩ (by dsimp only;omega)
      · have hz:(a0P ⟨s,ver,now,out⟩ ⟨0,0,0,4,i,(gt s.nodes i).tr,[],[],[]⟩).1≠0:=by assumption
        rw [if_neg (fun hh=>hh (show s.closed=0 by assumption)),if_neg (fun hh=>hh (by assumption)),if_neg (by assumption),if_pos hz] at hF
        rw [hF,if_pos rfl] at hQ
        refine hr _ ?_
        repeat' (with_reducible first|refine Wx.h ?_|refine Wb.h fun K hK=>?_|(refine hK _ ?_;clear hK K)|(refine wT ?_ ?_;assumption)|(refine wF ?_ ?_;assumption)|(refine Wy.h ?_ ?_;kernel_rfl)|refine Wq.h ?_ ?_<;>intro h<;>try (exfalso;omega)|refine Wu.h ?_ ?_<;>intro h<;>try simp only [h]|((fail_if_success refine Wz.h ?_);first|simp (disch:=omega) only [↓LD,LA,a0A,seval]|(refine And.intro ?_ ?_;omega)|simp only [D.int,D.bool]))
        exact end1 rfl rfl (by kernel_rfl) .f (hQ _ _ rfl rfl)
      · rw [if_neg (fun hh=>hh (show s.closed=0 by assumption)),if_pos (by assumption)] at hF
        exact Next.mk (i+1,⟨s,ver,now,out⟩,n) (by kernel_rfl) ⟨by omega,hl,ho,hn0,by dsimp only;omega,hF⟩ (by dsimp only;omega)
      · rw [if_pos (show s.closed≠0 by assumption)] at hF
        exact hx (⟨s,ver,now,out⟩,n) ⟨ho,hn0,by dsimp only;omega,hF⟩ _ (View.sweep (keep:=[0,3,4]) (by kernel_rfl))
    · rw [show p.s.nodes.length-i=0 by omega,d0i] at hF
      repeat' (with_reducible first|refine Wx.h ?_|refine Wb.h fun K hK=>?_|(refine hK _ ?_;clear hK K)|(refine wT ?_ ?_;assumption)|(refine wF ?_ ?_;assumption)|(refine Wy.h ?_ ?_;kernel_rfl)|refine Wq.h ?_ ?_<;>intro h<;>try (exfalso;omega)|refine Wu.h ?_ ?_<;>intro h<;>try simp only [h]|((fail_if_success refine Wz.h ?_);first|simp (disch:=omega) only [↓LD,LA,a0A,seval,LSt,pnB,pnD]|(refine And.intro ?_ ?_;omega)|simp only [D.int,D.bool]))
      exact hx (⟨s,ver,now,out⟩,n) ⟨ho,hn0,by dsimp only;omega,hF⟩ _ (View.sweep (keep:=[0,3,4]) (by kernel_rfl))
  · rintro ⟨q,n⟩ ⟨ho,hn0,hn1,hF⟩ s' hv
    refine e0R ?_
    refine o0b ?_
    refine HS.view hv ?_
    clear hv
    dsimp only at ho hn0 hn1 hF ⊢
    rw [hF,if_neg (by simp)] at hQ
    dsimp only at hQ
    clear hF
    generalize hLL:g0R N (unf q.s.tms+1) q n=LL at hQ
    repeat' (with_reducible first|refine Wx.h ?_|refine Wb.h fun K hK=>?_|(refine hK _ ?_;clear hK K)|(refine wT ?_ ?_;assumption)|(refine wF ?_ ?_;assumption)|(refine Wy.h ?_ ?_;kernel_rfl)|refine Wq.h ?_ ?_<;>intro h<;>try (exfalso;omega)|refine Wu.h ?_ ?_<;>intro h<;>try simp only [h]|((fail_if_success refine Wz.h ?_);first|simp (disch:=omega) only [↓LD,LA,a0A,seval]|(refine And.intro ?_ ?_;omega)|simp only [D.int,D.bool]))
    have hu0:=ho.ok.tms
    have hu1:∀ l:List Tm,unf l≤l.length:=fun l=>List.countP_le_length
    have hu2:=hu1 q.s.tms
    refine HS.loopG [0,3,4] (fun x:Pn × Int=>⟨frm 163 [(0,.pt 0 0),(3,D.int x.2),(4,D.int N)],[pnB x.1],[]⟩)
      (fun x=>PnOk b x.1∧0≤x.2∧x.2+unf x.1.s.tms≤2000000∧LL=g0R N (unf x.1.s.tms+1) x.1 x.2) (fun x=>unf x.1.s.tms) (q,n) (by kernel_rfl) ⟨ho,hn0,by dsimp only;omega,hLL.symm⟩ ?_
    clear ho hn0 hn1 hu0 hu2 hLL
    rintro ⟨⟨s,ver,now,out⟩,m⟩ ⟨ho,hn0,hn1,hF⟩
    dsimp only at ho hn0 hn1 hF
    have hok:=ho.ok
    dsimp only at hok
    have hlen:=ho.len
    haveI:Kn (Ok12 s):=⟨hok⟩
    haveI:Kn (out.length≤1000000):=⟨by dsimp only at hlen;omega⟩
    have htl:=hok.tms
    rw [g0R] at hF
    repeat' (with_reducible first|refine Wx.h ?_|refine Wb.h fun K hK=>?_|(refine hK _ ?_;clear hK K)|(refine wT ?_ ?_;assumption)|(refine wF ?_ ?_;assumption)|(refine Wy.h ?_ ?_;kernel_rfl)|refine Wq.h ?_ ?_<;>intro h<;>try (exfalso;omega)|refine Wu.h ?_ ?_<;>intro h<;>try simp only [h]|((fail_if_success refine Wz.h ?_);first|simp (disch:=omega) only [↓LD,LA,a0A,seval,LSt,pnB,pnD]|(refine And.intro ?_ ?_;omega)|simp only [D.int,D.bool]))
    rotate_left
    · rw [if_pos (show s.closed≠0 by assumption)] at hF
      rw [hF] at hQ
      exact end1 rfl rfl (by kernel_rfl) .f (hQ _ _ rfl rfl)
    have hcl:s.closed=0:=by assumption
    rw [if_neg (fun hh=>hh hcl)] at hF
    refine HS.loopG [0,3,4,7,8] (fun x:Nat × Int=>⟨frm 163 [(0,.pt 0 0),(3,D.int m),(4,D.int N),(7,D.int x.2),(8,D.int x.1)],[pnB ⟨s,ver,now,out⟩],[]⟩)
      (fun x=>x.1≤s.tms.length ∧ -1≤x.2∧x.2<x.1∧d0T N s.tms 0 (-1) s.tms=d0T N s.tms x.1 x.2 (s.tms.drop x.1)) (fun x=>s.tms.length-x.1) (0,-1) (by kernel_rfl) ⟨Nat.zero_le _,by simp,by simp,rfl⟩ ?_
    rintro ⟨j,k⟩ ⟨hj,hk0,hk1,hP⟩
    dsimp only at hj hk0 hk1 hP
    by_cases hjl:j<s.tms.length
    · rw [a0G hjl,d0T] at hP
      have hbT:befT (gt s.tms j) (gt s.tms k.toNat)=true↔(gt s.tms j).due<(gt s.tms k.toNat).due∨((gt s.tms j).due=(gt s.tms k.toNat).due∧Op.bytesLess (BB (gt s.tms j).name).toList (BB (gt s.tms k.toNat).name).toList=true):=by simp only [befT,f1g,Bool.or_eq_true,Bool.and_eq_true,decide_eq_true_eq]
      repeat' (with_reducible first|refine Wx.h ?_|refine We.h fun K hK=>?_|refine Wd.h fun K M hK hM=>?_|(refine hK _ _ _ _ ?_;clear hK K;try clear hM M)|(refine hM ?_;clear hM M;try clear hK K)|refine Wb.h fun K hK=>?_|(refine hK _ ?_;clear hK K)|(refine wT ?_ ?_;assumption)|(refine wF ?_ ?_;assumption)|(refine Wy.h ?_ ?_;kernel_rfl)|refine Wq.h ?_ ?_<;>intro h<;>try (exfalso;omega)|refine Wu.h ?_ ?_<;>intro h<;>try simp only [h]|((fail_if_success refine Wz.h ?_);first|simp (disch:=omega) only [↓LD,LA,a0A,seval,LSt,pnB,pnD,h0p,e0n,f0y,i0v,Tm.cs,-a0A,List.map_cons,List.map_nil]|(refine And.intro ?_ ?_;omega)|simp only [D.int,D.bool]))
      all_goals first
        | (rw [if_pos (show (gt s.tms j).fired=true by assumption)] at hP
           exact Next.mk (j+1,k) (by kernel_rfl) ⟨by dsimp only;omega,hk0,by dsimp only;omega,hP⟩ (by dsimp only;omega))
        | (rw [if_neg (by rw [show (gt s.tms j).fired=false by assumption];simp),if_pos (show N<(gt s.tms j).due by assumption)] at hP
           exact Next.mk (j+1,k) (by kernel_rfl) ⟨by dsimp only;omega,hk0,by dsimp only;omega,hP⟩ (by dsimp only;omega))
        | (rw [if_neg (by rw [show (gt s.tms j).fired=false by assumption];simp),if_neg (show ¬ N<(gt s.tms j).due by assumption),if_pos (.inl (show k<0 by assumption))] at hP
           exact Next.mk (j+1,(j:Int)) (by kernel_rfl) ⟨by dsimp only;omega,by dsimp only;omega,by dsimp only;omega,hP⟩ (by dsimp only;omega))
        | (rw [if_neg (by rw [show (gt s.tms j).fired=false by assumption];simp),if_neg (show ¬ N<(gt s.tms j).due by assumption),if_pos (.inr (hbT.2 (.inl (show (gt s.tms j).due<(gt s.tms k.toNat).due by assumption))))] at hP
           exact Next.mk (j+1,(j:Int)) (by kernel_rfl) ⟨by dsimp only;omega,by dsimp only;omega,by dsimp only;omega,hP⟩ (by dsimp only;omega))
        | (rw [if_neg (by rw [show (gt s.tms j).fired=false by assumption];simp),if_neg (show ¬ N<(gt s.tms j).due by assumption),if_pos (.inr (hbT.2 (.inr ⟨show (gt s.tms j).due=(gt s.tms k.toNat).due by assumption,show Op.bytesLess (BB (gt s.tms j).name).toList (BB (gt s.tms k.toNat).name).toList=true by assumption⟩)))] at hP
           exact Next.mk (j+1,(j:Int)) (by kernel_rfl) ⟨by dsimp only;omega,by dsimp only;omega,by dsimp only;omega,hP⟩ (by dsimp only;omega))
        | (rw [if_neg (by rw [show (gt s.tms j).fired=false by assumption];simp),if_neg (show ¬ N<(gt s.tms j).due by assumption),if_neg (fun hh=>hh.elim (show ¬ k<0 by assumption) (fun hb=>(hbT.1 hb).elim (show ¬ (gt s.tms j).due<(gt s.tms k.toNat).due by assumption) (fun he=>(show ¬ (gt s.tms j).due=(gt s.tms k.toNat).due by assumption) he.1)))] at hP
           exact Next.mk (j+1,k) (by kernel_rfl) ⟨by dsimp only;omega,hk0,by dsimp only;omega,hP⟩ (by dsimp only;omega))
        | (rw [if_neg (by rw [show (gt s.tms j).fired=false by assumption];simp),if_neg (show ¬ N<(gt s.tms j).due by assumption),if_neg (fun hh=>hh.elim (show ¬ k<0 by assumption) (fun hb=>(hbT.1 hb).elim (show ¬ (gt s.tms j).due<(gt s.tms k.toNat).due by assumption) (fun he=>(show ¬ Op.bytesLess (BB (gt s.tms j).name).toList (BB (gt s.tms k.toNat).name).toList=true by assumption) he.2)))] at hP
           exact Next.mk (j+1,k) (by kernel_rfl) ⟨by dsimp only;omega,hk0,by dsimp only;omega,hP⟩ (by dsimp only;omega))
    · rw [List.drop_of_length_le (by omega),d0T] at hP
      rw [hP] at hF
      have hn16:0≤k→(gt s.tms k.toNat).name.length≤16:=fun hk=>hok.tname _ (a0L (l:=s.tms) (k:=k.toNat) (by omega))
      by_cases hkz:k<0
      · repeat' (with_reducible first|refine Wx.h ?_|refine We.h fun K hK=>?_|refine Wd.h fun K M hK hM=>?_|(refine hK _ _ _ _ ?_;clear hK K;try clear hM M)|(refine hM ?_;clear hM M;try clear hK K)|refine Wb.h fun K hK=>?_|(refine hK _ ?_;clear hK K)|(refine wT ?_ ?_;assumption)|(refine wF ?_ ?_;assumption)|(refine Wy.h ?_ ?_;kernel_rfl)|refine Wq.h ?_ ?_<;>intro h<;>try (exfalso;omega)|refine Wu.h ?_ ?_<;>intro h<;>try simp only [h]|((fail_if_success refine Wz.h ?_);first|simp (disch:=omega) only [↓LD,LA,a0A,seval,LSt,pnB,pnD,h0p,e0n,f0y,i0v,Tm.cs,-a0A,List.map_cons,List.map_nil]|(refine And.intro ?_ ?_;omega)|simp only [D.int,D.bool]))
        rw [if_pos hkz] at hF
        rw [hF] at hQ
        exact end1 rfl rfl (by kernel_rfl) .f (hQ _ _ rfl rfl)
      rw [if_neg hkz] at hF
      have hn17:=hn16 (by omega)
      haveI:Kn ((gt s.tms k.toNat).name.length≤1000000):=⟨by omega⟩
      have hw:=a0z (e:=⟨0,0,0,6,0,0,(gt s.tms k.toNat).name,[],[]⟩) ho (b0r (by omega) (by simp) c0M)
      have hwu:=l0p (p:=⟨s,ver,now,out⟩) (nm:=(gt s.tms k.toNat).name)
      have hu2:=hu1 s.tms
      repeat' (with_reducible first|refine Wx.h ?_|refine We.h fun K hK=>?_|refine Wd.h fun K M hK hM=>?_|(refine hK _ _ _ _ ?_;clear hK K;try clear hM M)|(refine hM ?_;clear hM M;try clear hK K)|refine Wb.h fun K hK=>?_|(refine hK _ ?_;clear hK K)|(refine wT ?_ ?_;assumption)|(refine wF ?_ ?_;assumption)|(refine Wy.h ?_ ?_;kernel_rfl)|refine Wq.h ?_ ?_<;>intro h<;>try (exfalso;omega)|refine Wu.h ?_ ?_<;>intro h<;>try simp only [h]|((fail_if_success refine Wz.h ?_);first|simp (disch:=omega) only [↓LD,LA,a0A,seval,LSt,pnB,pnD,h0p,e0n,f0y,i0v,Tm.cs,-a0A,List.map_cons,List.map_nil]|(refine And.intro ?_ ?_;omega)|simp only [D.int,D.bool]))
      · have hz:(a0P ⟨s,ver,now,out⟩ ⟨0,0,0,6,0,0,(gt s.tms k.toNat).name,[],[]⟩).1=0:=by assumption
        have hwu:=hwu hz
        dsimp only at hwu hn1
        rw [if_neg (fun hh=>hh hz)] at hF
        refine Next.mk ((a0P ⟨s,ver,now,out⟩ ⟨0,0,0,6,0,0,(gt s.tms k.toNat).name,[],[]⟩).2,m+1) (by kernel_rfl) ⟨hw,by dsimp only;omega,by dsimp only;omega,?_⟩ (by dsimp only;omega)
        dsimp only
        rw [hF]
        exact l0A hwu (Nat.lt_succ_self _)
      · have hz:(a0P ⟨s,ver,now,out⟩ ⟨0,0,0,6,0,0,(gt s.tms k.toNat).name,[],[]⟩).1≠0:=by assumption
        rw [if_pos hz] at hF
        rw [hF] at hQ
        exact end1 rfl rfl (by kernel_rfl) .f (hQ _ _ rfl rfl)
instance {s:S12}{ver now:Int}{out:List Ev}{H:List Row}{K:D→List Row→Prop}{ds:List Nd}[ho:Kn (Ok12 s)][hl:Kn (out.length≤1000000)][k1:Kn (Fit ds)] :
  Wa (a0R Tryz.prog (.fn 89 []) [.pt 0 0,.f (fG ds)] (.box 121 [.f (.v (.int .i64 s.id)),.f (.v (.int .i64 s.ver)),.f (.v (.int .i64 s.time)),.f (.v (.int .i64 s.closed)),.f (.v (.bool s.cancel)),.f (fG s.defs),.f (fNn s.nodes),.f (fTm s.tms),.f (fSg s.sgs),.f (.v (.int .i64 ver)),.f (.v (.int .i64 now)),.f (fEv out)] :: H) K) (K (.f (.v (.int .i64 (b0l ⟨s,ver,now,out⟩ ds).1))) (pnB (b0l ⟨s,ver,now,out⟩ ds).2 :: H)):=⟨fun h =>
 b0j (e0p ⟨s,ver,now,out⟩ ds ho.h hl.h k1.h) rfl rfl (fun _=>rfl) (fun _=>rfl) (fun _=>rfl) (fun _=>rfl) h⟩
instance {s:S12}{ver now:Int}{out:List Ev}{H:List Row}{K:D→List Row→Prop}  [ho:Kn (Ok12 s)][hl:Kn (out.length≤1000000)] :
  Wa (a0R Tryz.prog (.fn 115 []) [.pt 0 0] (.box 121 [.f (.v (.int .i64 s.id)),.f (.v (.int .i64 s.ver)),.f (.v (.int .i64 s.time)),.f (.v (.int .i64 s.closed)),.f (.v (.bool s.cancel)),.f (fG s.defs),.f (fNn s.nodes),.f (fTm s.tms),.f (fSg s.sgs),.f (.v (.int .i64 ver)),.f (.v (.int .i64 now)),.f (fEv out)] :: H) K) (K (.tp [.f (.v (.int .i64 (c0G ⟨s,ver,now,out⟩).1.1)),.f (.v (.int .i64 (c0G ⟨s,ver,now,out⟩).1.2.1)),.f (.v (.int .i64 (c0G ⟨s,ver,now,out⟩).1.2.2))]) (pnB (c0G ⟨s,ver,now,out⟩).2 :: H)):=⟨fun h =>
 b0j (t0R ⟨s,ver,now,out⟩ ho.h hl.h) rfl rfl (fun _=>rfl) (fun _=>rfl) (fun _=>rfl) (fun _=>rfl) h⟩
instance {s:S12}{ver now:Int}{out:List Ev}{H:List Row}{K:Bool→D→List Row→Prop}{i t:Int}{ok:Bool}{d:Bs}[ho:Kn (Ok12 s)][hl:Kn (out.length≤1000000)][k1:Kn (d.length≤1000000)] :
  Wa (a0e Tryz.prog (.fn 116 []) [.pt 0 0,.f (.v (.int .i64 i)),.f (.v (.int .i64 t)),.f (.v (.bool ok)),.f (fY d)] (.box 121 [.f (.v (.int .i64 s.id)),.f (.v (.int .i64 s.ver)),.f (.v (.int .i64 s.time)),.f (.v (.int .i64 s.closed)),.f (.v (.bool s.cancel)),.f (fG s.defs),.f (fNn s.nodes),.f (fTm s.tms),.f (fSg s.sgs),.f (.v (.int .i64 ver)),.f (.v (.int .i64 now)),.f (fEv out)] :: H) K) (K true (.f (.v (.int .i64 (b0U ⟨s,ver,now,out⟩ i t ok d).1))) (pnB (b0U ⟨s,ver,now,out⟩ i t ok d).2 :: H)):=⟨fun h =>
 f0r (o0l ⟨s,ver,now,out⟩ i t ok d ho.h hl.h k1.h) rfl rfl (fun _=>rfl) (fun _=>rfl) (fun _=>rfl) (fun _=>rfl) h⟩
instance {s:S12}{ver now:Int}{out:List Ev}{H:List Row}{K:Bool→D→List Row→Prop}{nm:Bs}{t:Int}[ho:Kn (Ok12 s)][hl:Kn (out.length≤1000000)][k1:Kn (nm.length≤1000000)] :
  Wa (a0e Tryz.prog (.fn 118 []) [.pt 0 0,.f (.v (.string (BB nm))),.f (.v (.int .i64 t))] (.box 121 [.f (.v (.int .i64 s.id)),.f (.v (.int .i64 s.ver)),.f (.v (.int .i64 s.time)),.f (.v (.int .i64 s.closed)),.f (.v (.bool s.cancel)),.f (fG s.defs),.f (fNn s.nodes),.f (fTm s.tms),.f (fSg s.sgs),.f (.v (.int .i64 ver)),.f (.v (.int .i64 now)),.f (fEv out)] :: H) K) (K true (.f (.v (.int .i64 (armP ⟨s,ver,now,out⟩ nm t).1))) (pnB (armP ⟨s,ver,now,out⟩ nm t).2 :: H)):=⟨fun h =>
 f0r (b1T ⟨s,ver,now,out⟩ nm t ho.h hl.h k1.h) rfl rfl (fun _=>rfl) (fun _=>rfl) (fun _=>rfl) (fun _=>rfl) h⟩
instance {s:S12}{ver now:Int}{out:List Ev}{H:List Row}{K:Bool→D→List Row→Prop}{nm d:Bs}[ho:Kn (Ok12 s)][hl:Kn (out.length≤1000000)][k1:Kn (nm.length≤1000000)][k2:Kn (d.length≤1000000)] :
  Wa (a0e Tryz.prog (.fn 91 []) [.pt 0 0,.f (.v (.string (BB nm))),.f (fY d)] (.box 121 [.f (.v (.int .i64 s.id)),.f (.v (.int .i64 s.ver)),.f (.v (.int .i64 s.time)),.f (.v (.int .i64 s.closed)),.f (.v (.bool s.cancel)),.f (fG s.defs),.f (fNn s.nodes),.f (fTm s.tms),.f (fSg s.sgs),.f (.v (.int .i64 ver)),.f (.v (.int .i64 now)),.f (fEv out)] :: H) K) (K true (.tp [.f (.v (.bool (a0v ⟨s,ver,now,out⟩ nm d).1.1)),.f (.v (.int .i64 (a0v ⟨s,ver,now,out⟩ nm d).1.2))]) (pnB (a0v ⟨s,ver,now,out⟩ nm d).2 :: H)):=⟨fun h =>
 f0r (e0F ⟨s,ver,now,out⟩ nm d ho.h hl.h k1.h k2.h) rfl rfl (fun _=>rfl) (fun _=>rfl) (fun _=>rfl) (fun _=>rfl) h⟩
instance {s:S12}{ver now:Int}{out:List Ev}{H:List Row}{K:D→List Row→Prop}  [ho:Kn (Ok12 s)][hl:Kn (out.length≤1000000)] :
  Wa (a0R Tryz.prog (.fn 120 []) [.pt 0 0] (.box 121 [.f (.v (.int .i64 s.id)),.f (.v (.int .i64 s.ver)),.f (.v (.int .i64 s.time)),.f (.v (.int .i64 s.closed)),.f (.v (.bool s.cancel)),.f (fG s.defs),.f (fNn s.nodes),.f (fTm s.tms),.f (fSg s.sgs),.f (.v (.int .i64 ver)),.f (.v (.int .i64 now)),.f (fEv out)] :: H) K) (K (.f (.v (.int .i64 (b0h ⟨s,ver,now,out⟩).1))) (pnB (b0h ⟨s,ver,now,out⟩).2 :: H)):=⟨fun h =>
 b0j (q0q ⟨s,ver,now,out⟩ ho.h hl.h) rfl rfl (fun _=>rfl) (fun _=>rfl) (fun _=>rfl) (fun _=>rfl) h⟩
instance {s:S12}{ver now:Int}{out:List Ev}{H:List Row}{K:D→List Row→Prop}  [ho:Kn (Ok12 s)][hl:Kn (out.length≤1000000)] :
  Wa (a0R Tryz.prog (.fn 121 []) [.pt 0 0] (.box 121 [.f (.v (.int .i64 s.id)),.f (.v (.int .i64 s.ver)),.f (.v (.int .i64 s.time)),.f (.v (.int .i64 s.closed)),.f (.v (.bool s.cancel)),.f (fG s.defs),.f (fNn s.nodes),.f (fTm s.tms),.f (fSg s.sgs),.f (.v (.int .i64 ver)),.f (.v (.int .i64 now)),.f (fEv out)] :: H) K) (K (.f (.v (.int .i64 (f0V ⟨s,ver,now,out⟩).1))) (pnB (f0V ⟨s,ver,now,out⟩).2 :: H)):=⟨fun h =>
 b0j (j0s ⟨s,ver,now,out⟩ ho.h hl.h) rfl rfl (fun _=>rfl) (fun _=>rfl) (fun _=>rfl) (fun _=>rfl) h⟩
instance {s:S12}{ver now:Int}{out:List Ev}{H:List Row}{K:D→List Row→Prop}[ho:Kn (Ok12 s)][hl:Kn (out.length≤1000000)][k1:Kn (∃ b,PnOk b ⟨s,ver,now,out⟩)] :
  Wa (a0R Tryz.prog (.fn 119 []) [.pt 0 0] (.box 121 [.f (.v (.int .i64 s.id)),.f (.v (.int .i64 s.ver)),.f (.v (.int .i64 s.time)),.f (.v (.int .i64 s.closed)),.f (.v (.bool s.cancel)),.f (fG s.defs),.f (fNn s.nodes),.f (fTm s.tms),.f (fSg s.sgs),.f (.v (.int .i64 ver)),.f (.v (.int .i64 now)),.f (fEv out)] :: H) K) (K (.f (.v (.int .i64 (g0P ⟨s,ver,now,out⟩).1))) (pnB (g0P ⟨s,ver,now,out⟩).2 :: H)):=⟨fun h =>
 b0j (k1.h.elim fun b hb=>x0p b ⟨s,ver,now,out⟩ hb) rfl rfl (fun _=>rfl) (fun _=>rfl) (fun _=>rfl) (fun _=>rfl) h⟩
def SgN (e:Ev):Prop:=e.ty=7→∃ a r,e.name=a0o a++r
def PnS (p:Pn):Prop:=∀ e∈p.out,SgN e
theorem c0T {p:Pn}{e:Ev}(h:PnS p)(he:SgN e):PnS (a0P p e).2:=by
 have hn:SgN (a0V p e):=he
 rcases f0m p e with ⟨_,h2⟩|⟨_,_,h2,_,h3⟩|⟨_,_,h2,_,f,hf,h3,h4⟩
 ·rw [h2];exact h
 ·rw [h3]
  intro x hx
  rcases List.mem_append.1 hx with hx|hx
  ·exact h x hx
  ·obtain rfl:=List.mem_singleton.1 hx;exact hn
 ·rw [h4]
  intro x hx
  rcases List.mem_append.1 hx with hx|hx
  ·exact h x hx
  ·rcases List.mem_cons.1 hx with rfl|hx
   ·exact hn
   ·obtain rfl:=List.mem_singleton.1 hx
    intro ht
    have hk:=g0W (a0I p.s (a0V p e)).2
    have hft:x.ty=a0Y (a0I p.s (a0V p e)).2:=by rw [hf];try rfl
    omega
theorem g0Z {e:Ev}(h:e.ty≠7):SgN e:=fun hh=>absurd hh h
structure PnT (b:S12)(p:Pn):Prop where
 ok:PnOk b p
 sg:PnS p
theorem v0l {b:S12}{p:Pn}{ds:List Nd}(h:PnT b p)(hd:Fit ds):PnT b (b0l p ds).2:=by
 refine ⟨y0I h.ok hd,?_⟩
 unfold b0l
 repeat' split
 all_goals first|exact h.sg|exact c0T h.sg (g0Z (by simp))
theorem u0c {b:S12}{p:Pn}(h:PnT b p):PnT b (c0G p).2:=by
 refine ⟨z0V h.ok,?_⟩
 unfold c0G
 repeat' split
 all_goals first|exact h.sg|exact c0T h.sg (g0Z (by simp))
theorem q0F {b:S12}{p:Pn}{i t:Int}{ok:Bool}{d:Bs}(h:PnT b p)(hd:d.length≤1000000):PnT b (b0U p i t ok d).2:=by
 refine ⟨x0A h.ok hd,?_⟩
 unfold b0U
 repeat' split
 all_goals first|exact h.sg|exact c0T h.sg (g0Z (by simp))
theorem f1l {b:S12}{p:Pn}{nm:Bs}{t:Int}(h:PnT b p)(hn:nm.length≤1000000):PnT b (armP p nm t).2:=by
 refine ⟨e1N h.ok hn,?_⟩
 unfold armP
 repeat' split
 all_goals first|exact h.sg|exact c0T h.sg (g0Z (by simp))
theorem p0D {b:S12}{p:Pn}{x y:Int}{d:Bs}(h:PnT b p)(hn:(a0o x++a0o y).length≤1000000)(hd:d.length≤1000000):PnT b (a0v p (a0o x++a0o y) d).2:=by
 refine ⟨x0j h.ok hn hd,?_⟩
 unfold a0v
 repeat' split
 all_goals first|exact h.sg|exact c0T h.sg (fun _=>⟨x,a0o y,rfl⟩)
theorem y0f {b:S12}{p:Pn}(h:PnT b p):PnT b (b0h p).2:=by
 refine ⟨x0R h.ok,?_⟩
 unfold b0h
 repeat' split
 all_goals first|exact h.sg|exact c0T h.sg (g0Z (by simp))
theorem e1q {b:S12}{p:Pn}(h:PnT b p):PnT b (f0V p).2:=by
 refine ⟨b1l h.ok,?_⟩
 unfold f0V
 repeat' split
 all_goals first|exact h.sg|exact c0T h.sg (g0Z (by simp))
theorem k0T {now:Int}:∀ {k i:Nat} {p:Pn} {n:Int},PnS p→PnS (d0i now k i p n).2.1
 | 0,_,_,_,h=>h
 | k+1,i,p,n,h=>by
  rw [d0i]
  have hw:=c0T (e:=⟨0,0,0,4,i,(gt p.s.nodes i).tr,[],[],[]⟩) h (g0Z (by simp))
  split
  ·exact h
  ·split
   ·exact k0T h
   ·split
    ·exact k0T h
    ·split
     ·exact hw
     ·exact k0T hw
theorem b1a {now:Int}:∀ {f:Nat} {p:Pn} {n:Int},PnS p→PnS (g0R now f p n).2
 | 0,_,_,h=>h
 | f+1,p,n,h=>by
  rw [g0R]
  split
  ·exact h
  ·split
   ·exact h
   ·have hw:=c0T (e:=⟨0,0,0,6,0,0,(gt p.s.tms (d0T now p.s.tms 0 (-1) p.s.tms).toNat).name,[],[]⟩) h (g0Z (by simp))
    split
    ·exact hw
    ·exact b1a hw
theorem e1B {b:S12}{p:Pn}(h:PnT b p):PnT b (g0P p).2:=by
 refine ⟨b1h h.ok,?_⟩
 unfold g0P
 split
 ·exact k0T h.sg
 ·exact b1a (k0T h.sg)
theorem b1L {a b:Bs}:BB a++BB b=BB (a++b):=by
 apply ByteArray.ext
 rw [ByteArray.data_append]
 simp [BB]
def finA (p:Pn)(x:Rw):Nat→Nat→Pn
 | 0,_=>(c0G p).2
 | f+1,i=>if (gt p.s.nodes i).st=1 then (if 0<x.a.tmod 4 then (b0U p i (gt p.s.nodes i).tr true (fewL x.data 40)).2 else (b0U p i (gt p.s.nodes i).tr false (fewL x.data 0)).2) else finA p x f (i+1)
def j0X (p:Pn)(x:Rw)(l:List Rd):Pn :=
 if p.s.id=0 then (b0l p (c0Q l)).2
 else if pick x.what 16≤4 then (c0G p).2
 else if pick x.what 16≤8 then finA p x p.s.nodes.length 0
 else if pick x.what 16≤9 then (armP p (a0o x.a) (1+pick x.b 9)).2
 else if pick x.what 16≤12 then (a0v p (a0o x.a++a0o x.b) (fewL x.data 40)).2
 else if pick x.what 16≤14 then (g0P p).2
 else if x.b.tmod 4=0 then (b0h p).2 else if x.b.tmod 29=28 then (f0V p).2 else p
theorem a1B {b:Bs}{n:Int}(h:0≤n)(hn:n≤1000):(fewL b n).length≤1000000:=by have:=h0k (b:=b) (n:=n) h;omega
theorem z0m (a b:Int):(a0o a++a0o b).length≤1000000:=by have:=a0u a;have:=a0u b;rw [List.length_append];omega
theorem d1C {b:S12}{p:Pn}{x:Rw}(h:PnT b p):∀ {f i:Nat},PnT b (finA p x f i)
 | 0,_=>u0c h
 | f+1,i=>by
  rw [finA]
  split
  ·split
   ·exact q0F h (a1B (by omega) (by omega))
   ·exact q0F h (a1B (by omega) (by omega))
  ·exact d1C h
theorem s0Z {b:S12}{p:Pn}{x:Rw}{l:List Rd}(h:PnT b p):PnT b (j0X p x l):=by
 have hd:=c0B l
 unfold j0X
 repeat' split
 ·exact v0l h (hd.1.fit hd.2.2)
 ·exact u0c h
 ·exact d1C h
 ·exact f1l h (by have:=a0u x.a;omega)
 ·exact p0D h (z0m _ _) (a1B (by omega) (by omega))
 ·exact e1B h
 ·exact y0f h
 ·exact e1q h
 ·exact h
set_option maxRecDepth 100000 in
theorem h0A (b:S12)(p:Pn)(x:Rw)(l:List Rd)(hp:PnT b p):Con Tryz.prog 73 [.pt 0 0,rwD x,.f (fR l)] [pnB p] fun r H'=>r = .tp []∧H'=[pnB (j0X p x l)]:=by
 obtain ⟨s,ver,now,out⟩:=p
 suffices hh:∀ Q:D→List Row→Prop,(∀ p',j0X ⟨s,ver,now,out⟩ x l=p'→Q (.tp []) [pnB p'])→Con Tryz.prog 73 [.pt 0 0,rwD x,.f (fR l)] [pnB ⟨s,ver,now,out⟩] Q from hh _ fun p' h=>⟨rfl,by rw [h]⟩
 intro Q hQ
 have hE:j0X ⟨s,ver,now,out⟩ x l=j0X ⟨s,ver,now,out⟩ x l:=rfl
 conv at hE=>rhs;unfold j0X
 dsimp only at hE
 have ho:Ok12 s:=hp.ok.ok
 have hl:out.length≤200:=hp.ok.len
 haveI:Kn (Ok12 s):=⟨ho⟩
 haveI:Kn (Wk12 s):=⟨ho.wk⟩
 haveI:Kn (out.length≤1000000):=⟨by omega⟩
 refine Con.walk good r0j (by simp) ?_
 unfold j0d
 simp only [a0K,pnB,pnD,rwD]
 have hf1:=h0k (b:=x.data) (n:=40) (by omega)
 have hf2:=h0k (b:=x.data) (n:=0) (by omega)
 haveI:Kn ((fewL x.data 40).length≤1000000):=⟨by omega⟩
 haveI:Kn ((fewL x.data 0).length≤1000000):=⟨by omega⟩
 haveI:Kn ((a0o x.a).length≤1000000):=⟨by have:=a0u x.a;omega⟩
 haveI:Kn (∃ b,PnOk b ⟨s,ver,now,out⟩):=⟨b,hp.ok⟩
 by_cases hz:s.id=0
 ·repeat' (with_reducible first|refine Wx.h ?_|refine Wb.h fun K hK=>?_|(refine hK _ ?_;clear hK K)|(refine wT ?_ ?_;assumption)|(refine wF ?_ ?_;assumption)|(refine Wy.h ?_ ?_;kernel_rfl)|refine Wq.h ?_ ?_<;>intro h<;>try (exfalso;omega)|refine Wu.h ?_ ?_<;>intro h<;>try simp only [h]|((fail_if_success refine Wz.h ?_);first|simp (disch:=omega) only [↓LD,LA,a0A,seval]|(refine And.intro ?_ ?_;omega)|simp only [D.int,D.bool]))
  refine a0F (d0P l) [] (by kernel_rfl) rfl rfl ?_
  rintro _ _ ⟨rfl,rfl⟩
  have hd:=c0B l
  haveI:Kn (Fit (c0Q l)):=⟨hd.1.fit hd.2.2⟩
  simp (disch:=omega) only [↓LD,LA,a0A,seval,ren,List.getElem?_nil]
  repeat' (with_reducible first|refine Wx.h ?_|refine Wb.h fun K hK=>?_|(refine hK _ ?_;clear hK K)|(refine wT ?_ ?_;assumption)|(refine wF ?_ ?_;assumption)|(refine Wy.h ?_ ?_;kernel_rfl)|refine Wq.h ?_ ?_<;>intro h<;>try (exfalso;omega)|refine Wu.h ?_ ?_<;>intro h<;>try simp only [h]|((fail_if_success refine Wz.h ?_);first|simp (disch:=omega) only [↓LD,LA,a0A,seval]|(refine And.intro ?_ ?_;omega)|simp only [D.int,D.bool]))
  exact RetS.still (ds:=[]) (by kernel_rfl) (by kernel_rfl) (.tps .nil) (hQ _ (by rw [hE,if_pos hz]))
 haveI:Kn ((a0o x.a++a0o x.b).length≤1000000):=⟨by have:=a0u x.a;have:=a0u x.b;rw [List.length_append];omega⟩
 have hsz:(BB (a0o x.a)).size+(BB (a0o x.b)).size≤1000:=by have:=a0u x.a;have:=a0u x.b;rw [u0m,u0m];omega
 have hnl:=ho.wk.fit.fit.nodes
 have hla:=a0u x.a
 have hlb:=a0u x.b
 have hpk:=b0n (x:=x.b) (n:=9) (by omega)
 rw [if_neg hz] at hE
 have hpw:=b0n (x:=x.what) (n:=16) (by omega)
 repeat' (with_reducible first|refine Wx.h ?_|refine We.h fun K hK=>?_|refine Wd.h fun K M hK hM=>?_|(refine hK _ _ _ _ ?_;clear hK K;try clear hM M)|(refine hM ?_;clear hM M;try clear hK K)|refine Wb.h fun K hK=>?_|(refine hK _ ?_;clear hK K)|(refine wT ?_ ?_;assumption)|(refine wF ?_ ?_;assumption)|(refine Wy.h ?_ ?_;kernel_rfl)|refine Wq.h ?_ ?_<;>intro h<;>try (exfalso;omega)|refine Wu.h ?_ ?_<;>intro h<;>try simp only [h]|((fail_if_success refine Wz.h ?_);first|simp (disch:=omega) only [↓LD,LA,a0A,seval,b1L]|(refine And.intro ?_ ?_;omega)|simp only [D.int,D.bool]))
 all_goals first
  | exact RetS.still (ds:=[]) (by kernel_rfl) (by kernel_rfl) (.tps .nil) (hQ (c0G ⟨s,ver,now,out⟩).2 (by rw [hE,if_pos (by omega)]))
  | exact RetS.still (ds:=[]) (by kernel_rfl) (by kernel_rfl) (.tps .nil) (hQ (armP ⟨s,ver,now,out⟩ (a0o x.a) (1+pick x.b 9)).2 (by rw [hE,if_neg (by omega),if_neg (by omega),if_pos (by omega)]))
  | exact RetS.still (ds:=[]) (by kernel_rfl) (by kernel_rfl) (.tps .nil) (hQ (a0v ⟨s,ver,now,out⟩ (a0o x.a++a0o x.b) (fewL x.data 40)).2 (by rw [hE,if_neg (by omega),if_neg (by omega),if_neg (by omega),if_pos (by omega)]))
  | exact RetS.still (ds:=[]) (by kernel_rfl) (by kernel_rfl) (.tps .nil) (hQ (g0P ⟨s,ver,now,out⟩).2 (by rw [hE,if_neg (by omega),if_neg (by omega),if_neg (by omega),if_neg (by omega),if_pos (by omega)]))
  | exact RetS.still (ds:=[]) (by kernel_rfl) (by kernel_rfl) (.tps .nil) (hQ (b0h ⟨s,ver,now,out⟩).2 (by rw [hE,if_neg (by omega),if_neg (by omega),if_neg (by omega),if_neg (by omega),if_neg (by omega),if_pos (by assumption)]))
  | exact RetS.still (ds:=[]) (by kernel_rfl) (by kernel_rfl) (.tps .nil) (hQ (f0V ⟨s,ver,now,out⟩).2 (by rw [hE,if_neg (by omega),if_neg (by omega),if_neg (by omega),if_neg (by omega),if_neg (by omega),if_neg (by assumption),if_pos (by assumption)]))
  | exact RetS.still (ds:=[]) (by kernel_rfl) (by kernel_rfl) (.tps .nil) (hQ ⟨s,ver,now,out⟩ (by rw [hE,if_neg (by omega),if_neg (by omega),if_neg (by omega),if_neg (by omega),if_neg (by omega),if_neg (by assumption),if_neg (by assumption)]))
  | skip
 all_goals
  rw [if_neg (by omega),if_pos (by omega)] at hE
  refine HS.loopG [0,4,6] (fun i:Nat=>⟨frm 124 [(0,.pt 0 0),(4,.pt 1 0),(6,D.int i)],[pnB ⟨s,ver,now,out⟩,.box 115 [D.int x.what,D.int x.a,D.int x.b,D.int x.c,D.int x.v,.f (fY x.data)]],[]⟩)
   (fun i=>i≤s.nodes.length∧j0X ⟨s,ver,now,out⟩ x l=finA ⟨s,ver,now,out⟩ x (s.nodes.length-i) i) (fun i=>s.nodes.length-i) 0 (by kernel_rfl) ⟨Nat.zero_le _,hE⟩ ?_
  clear hE
  rintro i ⟨hi,hE⟩
  by_cases hil:i<s.nodes.length
  ·rw [show s.nodes.length-i=(s.nodes.length-(i+1))+1 by omega,finA] at hE
   dsimp only at hE
   repeat' (with_reducible first|refine Wx.h ?_|refine We.h fun K hK=>?_|refine Wd.h fun K M hK hM=>?_|(refine hK _ _ _ _ ?_;clear hK K;try clear hM M)|(refine hM ?_;clear hM M;try clear hK K)|refine Wb.h fun K hK=>?_|(refine hK _ ?_;clear hK K)|(refine wT ?_ ?_;assumption)|(refine wF ?_ ?_;assumption)|(refine Wy.h ?_ ?_;kernel_rfl)|refine Wq.h ?_ ?_<;>intro h<;>try (exfalso;omega)|refine Wu.h ?_ ?_<;>intro h<;>try simp only [h]|((fail_if_success refine Wz.h ?_);first|simp (disch:=omega) only [↓LD,LA,a0A,seval,LSt,pnB,pnD,b0u,g0V,a0h,Nn.cs]|(refine And.intro ?_ ?_;omega)|simp only [D.int,D.bool]))
   all_goals first
    | exact RetS.still (ds:=[]) (by kernel_rfl) (by kernel_rfl) (.tps .nil) (hQ (b0U ⟨s,ver,now,out⟩ i (gt s.nodes i).tr true (fewL x.data 40)).2 (by rw [hE,if_pos (by assumption),if_pos (by assumption)]))
    | exact RetS.still (ds:=[]) (by kernel_rfl) (by kernel_rfl) (.tps .nil) (hQ (b0U ⟨s,ver,now,out⟩ i (gt s.nodes i).tr false (fewL x.data 0)).2 (by rw [hE,if_pos (by assumption),if_neg (by assumption)]))
    | exact Next.mk (i+1) (by kernel_rfl) ⟨by omega,by rw [hE,if_neg (by assumption)]⟩ (by omega)
  ·rw [show s.nodes.length-i=0 by omega,finA] at hE
   repeat' (with_reducible first|refine Wx.h ?_|refine We.h fun K hK=>?_|refine Wd.h fun K M hK hM=>?_|(refine hK _ _ _ _ ?_;clear hK K;try clear hM M)|(refine hM ?_;clear hM M;try clear hK K)|refine Wb.h fun K hK=>?_|(refine hK _ ?_;clear hK K)|(refine wT ?_ ?_;assumption)|(refine wF ?_ ?_;assumption)|(refine Wy.h ?_ ?_;kernel_rfl)|refine Wq.h ?_ ?_<;>intro h<;>try (exfalso;omega)|refine Wu.h ?_ ?_<;>intro h<;>try simp only [h]|((fail_if_success refine Wz.h ?_);first|simp (disch:=omega) only [↓LD,LA,a0A,seval,LSt,pnB,pnD,b0u,g0V,a0h,Nn.cs]|(refine And.intro ?_ ?_;omega)|simp only [D.int,D.bool]))
   exact RetS.still (ds:=[]) (by kernel_rfl) (by kernel_rfl) (.tps .nil) (hQ _ hE)
theorem n0Q {g:List Ev}{k:Nat}(hk:k<g.length):((g.flatMap Ev.cs).drop (k*9)).take 9=Ev.cs (gt g k):=h0u Ev.cs_len hk
def rEv (l:List Ev):Row:=.data 73 (l.flatMap Ev.cs)
set_option maxRecDepth 100000 in
theorem h0q (l:List Ev)(hl:l.length≤1000000)(hf:∀ e∈l,FitV e):Con Tryz.prog 28 [.sl 0 0 l.length] [rEv l] fun r H'=>r = .tp [stD (a0N s0 l).2,D.int (a0N s0 l).1]∧H'=[rEv l]:=by
 refine Con.walk good j0v (by simp) ?_
 unfold f0x
 simp only [a0K]
 repeat' (with_reducible first|refine Wx.h ?_|refine Wb.h fun K hK=>?_|(refine hK _ ?_;clear hK K)|(refine wT ?_ ?_;assumption)|(refine wF ?_ ?_;assumption)|(refine Wy.h ?_ ?_;kernel_rfl)|refine Wq.h ?_ ?_<;>intro h<;>try (exfalso;omega)|refine Wu.h ?_ ?_<;>intro h<;>try simp only [h]|((fail_if_success refine Wz.h ?_);first|simp (disch:=omega) only [↓LD,LA,a0A,seval,rEv]|(refine And.intro ?_ ?_;omega)|simp only [D.int,D.bool]))
 refine HS.view (View.bcell 2 5 (.f (.s [] 0)) rfl rfl .ns) ?_
 refine HS.view (View.bcell 2 6 (.f (.s [] 0)) rfl rfl .ns) ?_
 refine HS.view (View.bcell 2 7 (.f (.s [] 0)) rfl rfl .ns) ?_
 refine HS.view (View.bcell 2 8 (.f (.s [] 0)) rfl rfl .ns) ?_
 refine HS.loopG [0,2,4,5] (fun x:Nat × S12=>⟨frm 27 [(0,.sl 0 0 l.length),(2,.pt 1 0),(4,.pt 2 0),(5,D.int x.1)],[rEv l,.box 65 [jI,jI,jI,jI,jF,jN,jN,jN,jN],stF x.2],[]⟩)
  (fun x=>x.1≤l.length∧Ok12 x.2∧a0N s0 l=a0N x.2 (l.drop x.1)) (fun x=>l.length-x.1) (0,s0) (by kernel_rfl) ⟨Nat.zero_le _,v0z,rfl⟩ ?_
 rintro ⟨i,s⟩ ⟨hi,ho,hF⟩
 dsimp only at hi ho hF
 by_cases hil:i<l.length
 ·rw [a0G hil,a0N] at hF
  have hv:=hf _ (a0L hil)
  haveI:Kn (Wk12 s):=⟨ho.wk⟩
  haveI:Kn (FitV (gt l i)):=⟨hv⟩
  repeat' (with_reducible first|refine Wx.h ?_|refine We.h fun K hK=>?_|refine Wd.h fun K M hK hM=>?_|(refine hK _ _ _ _ ?_;clear hK K;try clear hM M)|(refine hM ?_;clear hM M;try clear hK K)|refine Wb.h fun K hK=>?_|(refine hK _ ?_;clear hK K)|(refine wT ?_ ?_;assumption)|(refine wF ?_ ?_;assumption)|(refine Wy.h ?_ ?_;kernel_rfl)|refine Wq.h ?_ ?_<;>intro h<;>try (exfalso;omega)|refine Wu.h ?_ ?_<;>intro h<;>try simp only [h]|((fail_if_success refine Wz.h ?_);first|simp (disch:=omega) only [↓LD,LA,a0A,seval,rEv,n0Q,a0J,Ev.cs,stF,List.map_cons,List.map_nil]|(refine And.intro ?_ ?_;omega)|simp only [D.int,D.bool]))
  ·have hz:(a0I s (gt l i)).1=0:=by assumption
   rw [if_pos hz] at hF
   have ho2:=c0U ho hv.2.2.2 hz
   exact Next.mk (i+1,(a0I s (gt l i)).2) (by kernel_rfl) ⟨by dsimp only;omega,ho2,hF⟩ (by dsimp only;omega)
  ·rw [if_neg (by assumption)] at hF
   rw [hF]
   exact RetS.still (ds:=[.ag [jI,jI,jI,jI,jF,jN,jN,jN,jN],D.int (a0I s (gt l i)).1]) (by kernel_rfl) (by kernel_rfl) (.tps (.cons (.ags (.cons .f (.cons .f (.cons .f (.cons .f (.cons .f (.cons .nil (.cons .nil (.cons .nil (.cons .nil .nil)))))))))) (.cons .f .nil))) ⟨rfl,rfl⟩
 ·repeat' (with_reducible first|refine Wx.h ?_|refine Wb.h fun K hK=>?_|(refine hK _ ?_;clear hK K)|(refine wT ?_ ?_;assumption)|(refine wF ?_ ?_;assumption)|(refine Wy.h ?_ ?_;kernel_rfl)|refine Wq.h ?_ ?_<;>intro h<;>try (exfalso;omega)|refine Wu.h ?_ ?_<;>intro h<;>try simp only [h]|((fail_if_success refine Wz.h ?_);first|simp (disch:=omega) only [↓LD,LA,a0A,seval,rEv,stF]|(refine And.intro ?_ ?_;omega)|simp only [D.int,D.bool]))
  rw [List.drop_of_length_le (by omega),a0N] at hF
  rw [hF]
  exact RetS.still (ds:=[stD s,D.int 0]) (by kernel_rfl) (by kernel_rfl) (.tps (.cons a1K (.cons .f .nil))) ⟨rfl,rfl⟩
theorem e0S (l:List Ev)(ver now:Int)(hl:l.length≤1000000)(hf:∀ e∈l,FitV e):Con Tryz.prog 72 [.sl 0 0 l.length,D.int ver,D.int now] [rEv l] fun r H' =>
  (newE l ver now≠0→r = .tp [.f (.v (.pointer none)),D.int (newE l ver now)]∧H'=[rEv l])∧(newE l ver now=0→r = .tp [.pt 1 0,D.int 0]∧H'=[rEv l,pnB ⟨(a0N s0 l).2,ver,now,[]⟩]):=by
 suffices hh:∀ Q:D→List Row→Prop,(∀ r H',((newE l ver now≠0→r = .tp [.f (.v (.pointer none)),D.int (newE l ver now)]∧H'=[rEv l])∧(newE l ver now=0→r = .tp [.pt 1 0,D.int 0]∧H'=[rEv l,pnB ⟨(a0N s0 l).2,ver,now,[]⟩]))→Q r H')→Con Tryz.prog 72 [.sl 0 0 l.length,D.int ver,D.int now] [rEv l] Q from hh _ fun _ _ h=>h
 intro Q hQ
 haveI:Kn (l.length≤1000000):=⟨hl⟩
 haveI:Kn (∀ e∈l,FitV e):=⟨hf⟩
 have hE:newE l ver now=newE l ver now:=rfl
 conv at hE=>rhs;unfold newE
 generalize newE l ver now=E at hQ hE
 generalize hF:a0N s0 l=p at hQ hE
 obtain ⟨v,s⟩:=p
 dsimp only at hE hQ
 refine Con.walk good w0j (by simp) ?_
 unfold r0F
 simp only [a0K]
 repeat' (with_reducible first|refine Wa.h ?_|refine Ws.h ?_|refine Wb.h fun K hK=>?_|(refine hK _ ?_;clear hK K)|(refine wT ?_ ?_;assumption)|(refine wF ?_ ?_;assumption)|(refine Wy.h ?_ ?_;kernel_rfl)|refine Wq.h ?_ ?_<;>intro h<;>try (exfalso;omega)|refine Wu.h ?_ ?_<;>intro h<;>try simp only [h]|((fail_if_success refine Wz.h ?_);first|simp (disch:=omega) only [↓LD,LA,a0A,seval,rEv]|(refine And.intro ?_ ?_;omega)|simp only [D.int,D.bool]))
 refine a0F (h0q l hl hf) [0] (by kernel_rfl) rfl rfl ?_
 rintro _ _ ⟨rfl,rfl⟩
 simp (disch:=omega) only [↓LD,LA,a0A,seval,ren,List.getElem?_nil,rEv]
 rw [hF]
 repeat' (with_reducible first|refine Wa.h ?_|refine Ws.h ?_|refine Wb.h fun K hK=>?_|(refine hK _ ?_;clear hK K)|(refine wT ?_ ?_;assumption)|(refine wF ?_ ?_;assumption)|(refine Wy.h ?_ ?_;kernel_rfl)|refine Wq.h ?_ ?_<;>intro h<;>try (exfalso;omega)|refine Wu.h ?_ ?_<;>intro h<;>try simp only [h]|((fail_if_success refine Wz.h ?_);first|simp (disch:=omega) only [↓LD,LA,a0A,seval,rEv,stD]|(refine And.intro ?_ ?_;omega)|simp only [D.int,D.bool]))
 ·have hv:E=1:=by rw [hE,if_neg (fun hh=>hh (show v=0 by assumption)),if_pos (by assumption)]
  repeat' (with_reducible first|refine Wx.h ?_|refine Wb.h fun K hK=>?_|(refine hK _ ?_;clear hK K)|(refine wT ?_ ?_;assumption)|(refine wF ?_ ?_;assumption)|(refine Wy.h ?_ ?_;kernel_rfl)|refine Wq.h ?_ ?_<;>intro h<;>try (exfalso;omega)|refine Wu.h ?_ ?_<;>intro h<;>try simp only [h]|((fail_if_success refine Wz.h ?_);first|simp (disch:=omega) only [↓LD,LA,a0A,seval]|(refine And.intro ?_ ?_;omega)|simp only [D.int,D.bool]))
  exact end2 rfl rfl rfl rfl (by kernel_rfl) (.tps (.cons .f (.cons .f .nil))) (hQ _ _ ⟨fun _=>⟨by rw [hv];try rfl,rfl⟩,fun h=>by omega⟩)
 ·have hv:E=1:=by rw [hE,if_neg (fun hh=>hh (show v=0 by assumption)),if_neg (by rw [show (!verB ver)=false by assumption];simp),if_pos (by assumption)]
  repeat' (with_reducible first|refine Wx.h ?_|refine Wb.h fun K hK=>?_|(refine hK _ ?_;clear hK K)|(refine wT ?_ ?_;assumption)|(refine wF ?_ ?_;assumption)|(refine Wy.h ?_ ?_;kernel_rfl)|refine Wq.h ?_ ?_<;>intro h<;>try (exfalso;omega)|refine Wu.h ?_ ?_<;>intro h<;>try simp only [h]|((fail_if_success refine Wz.h ?_);first|simp (disch:=omega) only [↓LD,LA,a0A,seval]|(refine And.intro ?_ ?_;omega)|simp only [D.int,D.bool]))
  exact end2 rfl rfl rfl rfl (by kernel_rfl) (.tps (.cons .f (.cons .f .nil))) (hQ _ _ ⟨fun _=>⟨by rw [hv];try rfl,rfl⟩,fun h=>by omega⟩)
 ·have hv:E=1:=by rw [hE,if_neg (fun hh=>hh (show v=0 by assumption)),if_neg (by rw [show (!verB ver)=false by assumption];simp),if_neg (by assumption),if_pos (by assumption)]
  repeat' (with_reducible first|refine Wx.h ?_|refine Wb.h fun K hK=>?_|(refine hK _ ?_;clear hK K)|(refine wT ?_ ?_;assumption)|(refine wF ?_ ?_;assumption)|(refine Wy.h ?_ ?_;kernel_rfl)|refine Wq.h ?_ ?_<;>intro h<;>try (exfalso;omega)|refine Wu.h ?_ ?_<;>intro h<;>try simp only [h]|((fail_if_success refine Wz.h ?_);first|simp (disch:=omega) only [↓LD,LA,a0A,seval]|(refine And.intro ?_ ?_;omega)|simp only [D.int,D.bool]))
  exact end2 rfl rfl rfl rfl (by kernel_rfl) (.tps (.cons .f (.cons .f .nil))) (hQ _ _ ⟨fun _=>⟨by rw [hv];try rfl,rfl⟩,fun h=>by omega⟩)
 ·have hv:E=4:=by rw [hE,if_neg (fun hh=>hh (show v=0 by assumption)),if_neg (by rw [show (!verB ver)=false by assumption];simp),if_neg (by assumption),if_neg (by assumption),if_pos (by assumption)]
  repeat' (with_reducible first|refine Wx.h ?_|refine Wb.h fun K hK=>?_|(refine hK _ ?_;clear hK K)|(refine wT ?_ ?_;assumption)|(refine wF ?_ ?_;assumption)|(refine Wy.h ?_ ?_;kernel_rfl)|refine Wq.h ?_ ?_<;>intro h<;>try (exfalso;omega)|refine Wu.h ?_ ?_<;>intro h<;>try simp only [h]|((fail_if_success refine Wz.h ?_);first|simp (disch:=omega) only [↓LD,LA,a0A,seval]|(refine And.intro ?_ ?_;omega)|simp only [D.int,D.bool]))
  exact end2 rfl rfl rfl rfl (by kernel_rfl) (.tps (.cons .f (.cons .f .nil))) (hQ _ _ ⟨fun _=>⟨by rw [hv];try rfl,rfl⟩,fun h=>by omega⟩)
 ·have hv:E=0:=by rw [hE,if_neg (fun hh=>hh (show v=0 by assumption)),if_neg (by rw [show (!verB ver)=false by assumption];simp),if_neg (by assumption),if_neg (by assumption),if_neg (by assumption)]
  refine HS.view (View.bcell 2 11 (.f (.s [] 0)) rfl rfl .ns) ?_
  repeat' (with_reducible first|refine Wx.h ?_|refine Wb.h fun K hK=>?_|(refine hK _ ?_;clear hK K)|(refine wT ?_ ?_;assumption)|(refine wF ?_ ?_;assumption)|(refine Wy.h ?_ ?_;kernel_rfl)|refine Wq.h ?_ ?_<;>intro h<;>try (exfalso;omega)|refine Wu.h ?_ ?_<;>intro h<;>try simp only [h]|((fail_if_success refine Wz.h ?_);first|simp (disch:=omega) only [↓LD,LA,a0A,seval]|(refine And.intro ?_ ?_;omega)|simp only [D.int,D.bool]))
  exact RetS.gather (ds:=[.pt 2 0,D.int 0]) (e:=⟨.tp [.pt 1 0,D.int 0],[(0,rEv l)],[pnB ⟨s,ver,now,[]⟩]⟩) (by kernel_rfl) (by kernel_rfl) (hQ _ _ ⟨fun h=>absurd hv h,fun _=>⟨rfl,rfl⟩⟩)
 ·have hv:E=1:=by rw [hE,if_pos (show v≠0 by assumption)]
  repeat' (with_reducible first|refine Wx.h ?_|refine Wb.h fun K hK=>?_|(refine hK _ ?_;clear hK K)|(refine wT ?_ ?_;assumption)|(refine wF ?_ ?_;assumption)|(refine Wy.h ?_ ?_;kernel_rfl)|refine Wq.h ?_ ?_<;>intro h<;>try (exfalso;omega)|refine Wu.h ?_ ?_<;>intro h<;>try simp only [h]|((fail_if_success refine Wz.h ?_);first|simp (disch:=omega) only [↓LD,LA,a0A,seval]|(refine And.intro ?_ ?_;omega)|simp only [D.int,D.bool]))
  exact end2 rfl rfl rfl rfl (by kernel_rfl) (.tps (.cons .f (.cons .f .nil))) (hQ _ _ ⟨fun _=>⟨by rw [hv];try rfl,rfl⟩,fun h=>by omega⟩)
def s0W (v:Int):Int:=v+1+ownD (v+1)
def verN:Nat→Int→Int
 | 0,v=>v
 | n+1,v=>verN n (s0W v)
def verL (was n:Int):Int:=max (verN (pick n 3).toNat was) 1
theorem v0U (v:Int):v+1≤s0W v∧s0W v≤v+7:=by
 have:=o0S (v+1)
 unfold s0W;omega
theorem y0O:∀ (n:Nat) (v:Int),v≤verN n v∧verN n v≤v+7*n
 | 0,v=>by simp [verN]
 | n+1,v=>by
  have h1:=y0O n (s0W v)
  have h2:=v0U v
  rw [verN];omega
theorem b1J (was n:Int):was≤verL was n∧1≤verL was n∧verL was n≤max was 1+21:=by
 have h1:=y0O (pick n 3).toNat was
 have h2:=b0n (x:=n) (n:=3) (by omega)
 unfold verL;omega
theorem z0O {x:Int}(h0:0≤x)(h1:¬ x.tmod 10<1)(h2:¬ 4<x.tmod 10):ownD x=0:=by
 rw [Int.tmod_eq_emod_of_nonneg h0] at h1 h2
 unfold ownD;split<;>(try split)<;>omega
theorem e0E (was n:Int)(h0:0≤was)(h1:was≤4398046511104):Con Tryz.prog 58 [D.int was,D.int n] [] fun r H'=>r=D.int (verL was n)∧H'=[]:=by
 refine Con.walk good j0O (by simp) ?_
 unfold e0c
 simp only [a0K]
 repeat' (with_reducible first|refine Wx.h ?_|refine Wb.h fun K hK=>?_|(refine hK _ ?_;clear hK K)|(refine wT ?_ ?_;assumption)|(refine wF ?_ ?_;assumption)|(refine Wy.h ?_ ?_;kernel_rfl)|refine Wq.h ?_ ?_<;>intro h<;>try (exfalso;omega)|refine Wu.h ?_ ?_<;>intro h<;>try simp only [h]|((fail_if_success refine Wz.h ?_);first|simp (disch:=omega) only [↓LD,LA,a0A,seval]|(refine And.intro ?_ ?_;omega)|simp only [D.int,D.bool]))
 have pk:=b0n (x:=n) (n:=3) (by omega)
 refine HS.loopG [0,1,5,6] (fun x:Nat × Int=>⟨frm 28 [(0,D.int was),(1,D.int n),(5,D.int x.2),(6,D.int x.1)],[],[]⟩) (fun x=>(x.1:Int)≤pick n 3∧was≤x.2∧x.2≤was+11*x.1∧verN (pick n 3).toNat was=verN ((pick n 3).toNat-x.1) x.2) (fun x=>3-x.1) (0,was) (by kernel_rfl) ⟨by dsimp only;omega,by simp,by simp,rfl⟩ ?_
 rintro ⟨i,v⟩ ⟨hi,hv1,hv2,hv0⟩
 dsimp only at hi hv1 hv2 hv0
 repeat' (with_reducible first|refine Wx.h ?_|refine Wb.h fun K hK=>?_|(refine hK _ ?_;clear hK K)|(refine wT ?_ ?_;assumption)|(refine wF ?_ ?_;assumption)|(refine Wy.h ?_ ?_;kernel_rfl)|refine Wq.h ?_ ?_<;>intro h<;>try (exfalso;omega)|refine Wu.h ?_ ?_<;>intro h<;>try simp only [h]|((fail_if_success refine Wz.h ?_);first|simp (disch:=omega) only [↓LD,LA,a0A,seval]|(refine And.intro ?_ ?_;omega)|simp only [D.int,D.bool]))
 ·have hd:=o0S (v+1)
  rw [show (pick n 3).toNat-i=((pick n 3).toNat-(i+1))+1 by omega,verN] at hv0
  refine HS.loopG [0,1,5,6] (fun x:Int=>⟨frm 28 [(0,D.int was),(1,D.int n),(5,D.int x),(6,D.int i)],[],[]⟩) (fun x=>v+1≤x∧x+ownD x=s0W v) (fun x=>(ownD x).toNat) (v+1) (by kernel_rfl) ⟨by omega,rfl⟩ ?_
  rintro x ⟨hx1,hx2⟩
  have hbv:=v0U v
  have hd2:=o0S x
  have hd3:=o0S (x+1)
  have hst:=b1A (x:=x) (by omega)
  have hgd:=z0O (x:=x) (by omega)
  repeat' (with_reducible first|refine Wx.h ?_|refine Wb.h fun K hK=>?_|(refine hK _ ?_;clear hK K)|(refine wT ?_ ?_;assumption)|(refine wF ?_ ?_;assumption)|(refine Wy.h ?_ ?_;kernel_rfl)|refine Wq.h ?_ ?_<;>intro h<;>try (exfalso;omega)|refine Wu.h ?_ ?_<;>intro h<;>try simp only [h]|((fail_if_success refine Wz.h ?_);first|simp (disch:=omega) only [↓LD,LA,a0A,seval]|(refine And.intro ?_ ?_;omega)|simp only [D.int,D.bool]))
  ·have hst:=hst (.inl (by assumption))
   exact Next.mk (x+1) (by kernel_rfl) ⟨by omega,by omega⟩ (by omega)
  ·have hst:=hst (.inr (by assumption))
   exact Next.mk (x+1) (by kernel_rfl) ⟨by omega,by omega⟩ (by omega)
  ·have hgd:=hgd (by assumption) (by assumption)
   have hxb:x=s0W v:=by omega
   exact Next.mk (i+1,x) (by kernel_rfl) ⟨by dsimp only;omega,by dsimp only;omega,by dsimp only;omega,by dsimp only;rw [hv0,hxb]⟩ (by dsimp only;omega)
 ·rw [show (pick n 3).toNat-i=0 by omega,verN] at hv0
  exact end1 rfl rfl (by kernel_rfl) .f ⟨by rw [verL,hv0];try rfl,rfl⟩
instance {v n:Int}{H:List Row}{K:D→List Row→Prop}:Wa (a0R Tryz.prog (.fn 58 []) [.f (.v (.int .i64 v)),.f (.v (.int .i64 n))] H K) ((0≤v∧v≤4398046511104)∧K (.f (.v (.int .i64 (verL v n)))) H):=⟨fun h=>a0C (e0E v n h.1.1 h.1.2) rfl rfl rfl h.2⟩
instance {v n:Int}{H:List Row}{K:Bool→D→List Row→Prop}:Wa (a0e Tryz.prog (.fn 58 []) [.f (.v (.int .i64 v)),.f (.v (.int .i64 n))] H K) ((0≤v∧v≤4398046511104)∧K true (.f (.v (.int .i64 (verL v n)))) H):=⟨fun h=>a0M (e0E v n h.1.1 h.1.2) rfl rfl rfl h.2⟩
end Go.Proofs.YthjgmldnegaaiaaGreatDoor.Mir
