/- Texts laid into one file: PnB, PnC, PnD, PnE, PnF, PlB, PlC, PlD, CLine, LnA, SpA. -/
import Derived.Test.YtgbbpelfpagdoaaGreatDoorSs11
set_option linter.unusedVariables false
set_option linter.unusedSimpArgs false
namespace Go.Proofs.YtgbbpelfpagdoaaGreatDoor.Mir
open Go Go.RowKit
set_option maxHeartbeats 4000000
instance : Kn (([] : Bs).length ≤ 1000000):=⟨by simp⟩
instance : Kn (Fit []):=⟨by simp [Fit]⟩
instance {s : S12} {ver now : Int} {out : List Ev} {H : List Row} {K : D → List Row → Prop} {a b c ty node n : Int} {nm dt df : D} {nm' dt' : Bs} {df' : List Nd} [h1 : StrC nm nm'] [h2 : DatC dt dt'] [h3 : DefC df df'] [ho : Kn (Ok12 s)] [hl : Kn (out.length ≤ 1000000)] [k1 : Kn (nm'.length ≤ 1000000)] [k2 : Kn (dt'.length ≤ 1000000)] [k3 : Kn (Fit df')] :
    Wa (callW Tryz.prog (.fn 89 []) [.pt 0 0,.ag [.f (.v (.int .i64 a)),.f (.v (.int .i64 b)),.f (.v (.int .i64 c)),.f (.v (.int .i64 ty)),.f (.v (.int .i64 node)),.f (.v (.int .i64 n)),nm,dt,df]]
      (.box 78 [.f (.v (.int .i64 s.id)),.f (.v (.int .i64 s.ver)),.f (.v (.int .i64 s.time)),.f (.v (.int .i64 s.closed)),.f (.v (.bool s.cancel)),.f (fG s.defs),.f (fNn s.nodes),.f (fTm s.tms),.f (fSg s.sgs),.f (.v (.int .i64 ver)),.f (.v (.int .i64 now)),.f (fEv out)] :: H) K)
    (K (.f (.v (.int .i64 (writeP ⟨s,ver,now,out⟩ ⟨a,b,c,ty,node,n,nm',dt',df'⟩).1))) (pnB (writeP ⟨s,ver,now,out⟩ ⟨a,b,c,ty,node,n,nm',dt',df'⟩).2 :: H)):=⟨fun h=>by
  obtain ⟨h1⟩:=h1;obtain ⟨h2⟩:=h2;obtain ⟨h3⟩:=h3
  subst h1
  refine callW_less (args0:=[.pt 0 0,evD ⟨a,b,c,ty,node,n,nm',dt',df'⟩]) ?_ (.cons .refl (.cons (WD.ags (.cons .refl (.cons .refl (.cons .refl (.cons .refl (.cons .refl (.cons .refl (.cons .refl (.cons h2 (.cons h3 .nil)))))))))) .nil))
  exact callW_own (c_pen_write ⟨s,ver,now,out⟩ ⟨a,b,c,ty,node,n,nm',dt',df'⟩ ho.h ⟨k2.h,k1.h,k3.h⟩ hl.h) rfl rfl (fun _=>rfl) (fun _=>rfl) (fun _=>rfl) (fun _=>rfl) h⟩
def openP (s : S12) : Int:=if s.id = 0 then 3 else if s.closed ≠ 0 then 12 else 0
theorem c_pen_open (p : Pn) : Con Tryz.prog 90 [.pt 0 0] [pnB p] fun r H'=>r = D.int (openP p.s) ∧ H' = [pnB p]:=by
  refine Con.walk good fn_pen_open (by simp) ?_
  unfold s_pen_open
  simp only [argsE,pnB,pnD]
  repeat' (first|(with_reducible first|refine Wx.h ?_|refine Wb.h fun K hK=>?_|(refine hK _ ?_;clear hK K)|(refine wT ?_ ?_;· assumption)|(refine wF ?_ ?_;· assumption))|((with_reducible refine kQ ?_ ?_);kernel_rfl)|((with_reducible refine k1 ?_ ?_);rfl)|((with_reducible refine k0 ?_ ?_);rfl)|((with_reducible apply kB)<;>first|rfl|intro h)|((with_reducible refine kM ?_ ?_);rfl)|(with_reducible refine Wq.h ?_ ?_)<;>intro h<;>try (exfalso;omega)|(with_reducible refine Wu.h ?_ ?_)<;>intro h<;>try simp only [h]|((fail_if_success with_reducible refine Wz.h ?_);first|simp (disch:=omega) only [↓LD,LA,loadA_rf,seval]|((with_reducible refine And.intro ?_ ?_);omega)|simp only [D.int,D.bool]))
  all_goals (refine end1 rfl rfl (by kernel_rfl) .f ⟨congrArg D.int ?_,rfl⟩;simp [openP, *])
instance {s : S12} {ver now : Int} {out : List Ev} {H : List Row} {K : D → List Row → Prop} :
    Wa (callW Tryz.prog (.fn 90 []) [.pt 0 0]
      (.box 78 [.f (.v (.int .i64 s.id)),.f (.v (.int .i64 s.ver)),.f (.v (.int .i64 s.time)),.f (.v (.int .i64 s.closed)),.f (.v (.bool s.cancel)),.f (fG s.defs),.f (fNn s.nodes),.f (fTm s.tms),.f (fSg s.sgs),.f (.v (.int .i64 ver)),.f (.v (.int .i64 now)),.f (fEv out)] :: H) K)
    (K (.f (.v (.int .i64 (openP s)))) (.box 78 [.f (.v (.int .i64 s.id)),.f (.v (.int .i64 s.ver)),.f (.v (.int .i64 s.time)),.f (.v (.int .i64 s.closed)),.f (.v (.bool s.cancel)),.f (fG s.defs),.f (fNn s.nodes),.f (fTm s.tms),.f (fSg s.sgs),.f (.v (.int .i64 ver)),.f (.v (.int .i64 now)),.f (fEv out)] :: H)):=⟨fun h =>
  callW_own (c_pen_open ⟨s,ver,now,out⟩) rfl rfl (fun _=>rfl) (fun _=>rfl) (fun _=>rfl) (fun _=>rfl) h⟩
instance {s : S12} {H : List Row} {K : D → List Row → Prop} [hs : Kn (Wk12 s)] : Wa (callW Tryz.prog (.fn 58 []) [.ag [.f (.v (.int .i64 s.id)),.f (.v (.int .i64 s.ver)),.f (.v (.int .i64 s.time)),.f (.v (.int .i64 s.closed)),.f (.v (.bool s.cancel)),.f (fG s.defs),.f (fNn s.nodes),.f (fTm s.tms),.f (fSg s.sgs)]] H K)
    (K (.f (fI (readyR s))) H):=⟨fun h=>callW_pure (c_ref_ReadyNodesF s hs.h.fit.defs hs.h.pos hs.h.fit.fit.nodes hs.h.len) rfl rfl rfl h⟩
instance {s : S12} {nm : Bs} {H : List Row} {K : D → List Row → Prop} [hs : Kn (Wk12 s)] : Wa (callW Tryz.prog (.fn 31 []) [.ag [.f (.v (.int .i64 s.id)),.f (.v (.int .i64 s.ver)),.f (.v (.int .i64 s.time)),.f (.v (.int .i64 s.closed)),.f (.v (.bool s.cancel)),.f (fG s.defs),.f (fNn s.nodes),.f (fTm s.tms),.f (fSg s.sgs)],.f (.v (.string (BB nm)))] H K)
    (K (.f (.v (.bool (hasSg s.sgs nm)))) H):=⟨fun h=>callW_pure (c_ref_Has s nm hs.h.fit.fit.sgs) rfl rfl rfl h⟩
def startP (p : Pn) (ds : List Nd) : Int × Pn:=if 0 < p.s.id then (13,p) else if checkL ds ≠ 0 then (checkL ds,p) else writeP p ⟨0,0,0,1,0,0,[],[],ds⟩
theorem end3 {n0 n t u v : Nat} {e : List (Nat × D)} {H : List Row} {dr : List Nat} {d f g : F} {Q : D → List Row → Prop} (ht : Nat.blt t n = true) (hu : Nat.blt u n = true) (hv : Nat.blt v n = true) (h : look t e = .f d) (k : look u e = .f f) (m : look v e = .f g) (hl : lowB n0 (H.take n0) = true) (q : Q (.tp [.f d,.f f,.f g]) (H.take n0)) : RetS n0 [.t t,.t u,.t v] Q ⟨frm n e,H,dr⟩:=by
  refine .still (ds:=[.f d,.f f,.f g]) ?_ hl (.tps (.cons .f (.cons .f (.cons .f .nil)))) q
  simp only [resS]
  rw [frm_getD (by simpa using ht),frm_getD (by simpa using hu),frm_getD (by simpa using hv),h,k,m]
theorem c_pen_Start (p : Pn) (ds : List Nd) (ho : Ok12 p.s) (hl : p.out.length ≤ 1000000) (hf : Fit ds) : Con Tryz.prog 60 [.pt 0 0,.f (fG ds)] [pnB p] fun r H'=>r = D.int (startP p ds).1 ∧ H' = [pnB (startP p ds).2]:=by
  obtain ⟨s,ver,now,out⟩:=p
  suffices hh : ∀ Q : D → List Row → Prop,(∀ r H',r = D.int (startP ⟨s,ver,now,out⟩ ds).1 → H' = [pnB (startP ⟨s,ver,now,out⟩ ds).2] → Q r H') → Con Tryz.prog 60 [.pt 0 0,.f (fG ds)] [pnB ⟨s,ver,now,out⟩] Q from hh _ fun _ _ h1 h2=>⟨h1,h2⟩
  intro Q hQ
  dsimp only at ho hl
  haveI : Kn (Ok12 s):=⟨ho⟩
  haveI : Kn (Wk12 s):=⟨ho.wk⟩
  haveI : Kn (out.length ≤ 1000000):=⟨hl⟩
  haveI : Kn (Fit ds):=⟨hf⟩
  refine Con.walk good fn_pen_Start (by simp) ?_
  unfold s_pen_Start
  simp only [argsE,pnB,pnD]
  repeat' (first|(with_reducible first|refine Wx.h ?_|refine Wb.h fun K hK=>?_|(refine hK _ ?_;clear hK K)|(refine wT ?_ ?_;· assumption)|(refine wF ?_ ?_;· assumption))|((with_reducible refine kQ ?_ ?_);kernel_rfl)|((with_reducible refine k1 ?_ ?_);rfl)|((with_reducible refine k0 ?_ ?_);rfl)|((with_reducible apply kB)<;>first|rfl|intro h)|((with_reducible refine kM ?_ ?_);rfl)|(with_reducible refine Wq.h ?_ ?_)<;>intro h<;>try (exfalso;omega)|(with_reducible refine Wu.h ?_ ?_)<;>intro h<;>try simp only [h]|((fail_if_success with_reducible refine Wz.h ?_);first|simp (disch:=omega) only [↓LD,LA,loadA_rf,seval]|((with_reducible refine And.intro ?_ ?_);omega)|simp only [D.int,D.bool]))
  all_goals exact end1 rfl rfl (by kernel_rfl) .f (hQ _ _ (by simp only [startP,ne_eq, *,not_false_eq_true,not_true_eq_false,↓reduceIte,or_true,true_or,or_false,false_or,or_self,Bool.false_eq_true,Bool.true_eq_false,and_true,true_and,and_false,false_and]<;>rfl) (by simp only [startP,ne_eq, *,not_false_eq_true,not_true_eq_false,↓reduceIte,or_true,true_or,or_false,false_or,or_self,Bool.false_eq_true,Bool.true_eq_false,and_true,true_and,and_false,false_and]<;>rfl))
theorem readyR_gt {s : S12} (h : Ok12 s) (hn : (readyR s).length ≠ 0) : 0 ≤ gt (readyR s) 0 ∧ gt (readyR s) 0 < s.nodes.length ∧ 0 ≤ (gt s.nodes (gt (readyR s) 0).toNat).tr ∧ (gt s.nodes (gt (readyR s) 0).toNat).tr ≤ 5:=by
  have hm:=gt_mem (l:=readyR s) (k:=0) (by omega)
  have h1:=readyR_in hm
  have h2:=rdy_pos h1.2.2.2.2
  have h3:=h.tr _ (gt_mem (l:=s.nodes) (k:=(gt (readyR s) 0).toNat) (by omega))
  exact ⟨by omega,h1.1,h3.1,h3.2⟩
def tri (x : Int × Int × Int) : List D:=[D.int x.1,D.int x.2.1,D.int x.2.2]
def beginP (p : Pn) : (Int × Int × Int) × Pn :=
  if openP p.s ≠ 0 then ((0,0,openP p.s),p) else if ((readyR p.s).length : Int) = 0 then ((0,0,3),p)
  else if (writeP p ⟨0,0,0,2,gt (readyR p.s) 0,(gt p.s.nodes (gt (readyR p.s) 0).toNat).tr + 1,[],[],[]⟩).1 ≠ 0 then ((0,0,(writeP p ⟨0,0,0,2,gt (readyR p.s) 0,(gt p.s.nodes (gt (readyR p.s) 0).toNat).tr + 1,[],[],[]⟩).1),(writeP p ⟨0,0,0,2,gt (readyR p.s) 0,(gt p.s.nodes (gt (readyR p.s) 0).toNat).tr + 1,[],[],[]⟩).2)
  else ((gt (readyR p.s) 0,(gt p.s.nodes (gt (readyR p.s) 0).toNat).tr + 1,0),(writeP p ⟨0,0,0,2,gt (readyR p.s) 0,(gt p.s.nodes (gt (readyR p.s) 0).toNat).tr + 1,[],[],[]⟩).2)
theorem c_pen_Begin (p : Pn) (ho : Ok12 p.s) (hl : p.out.length ≤ 1000000) : Con Tryz.prog 62 [.pt 0 0] [pnB p] fun r H'=>r = .tp (tri (beginP p).1) ∧ H' = [pnB (beginP p).2]:=by
  obtain ⟨s,ver,now,out⟩:=p
  suffices hh : ∀ Q : D → List Row → Prop,(∀ r H',r = .tp (tri (beginP ⟨s,ver,now,out⟩).1) → H' = [pnB (beginP ⟨s,ver,now,out⟩).2] → Q r H') → Con Tryz.prog 62 [.pt 0 0] [pnB ⟨s,ver,now,out⟩] Q from hh _ fun _ _ h1 h2=>⟨h1,h2⟩
  intro Q hQ
  dsimp only at ho hl
  haveI : Kn (Ok12 s):=⟨ho⟩
  haveI : Kn (Wk12 s):=⟨ho.wk⟩
  haveI : Kn (out.length ≤ 1000000):=⟨hl⟩
  have hg:=fun h=>readyR_gt ho h
  refine Con.walk good fn_pen_Begin (by simp) ?_
  unfold s_pen_Begin
  simp only [argsE,pnB,pnD]
  repeat' (first|(with_reducible first|refine Wx.h ?_|refine We.h fun K hK=>?_|refine Wd.h fun K M hK hM=>?_|(refine hK _ _ _ _ ?_;clear hK K;try clear hM M)|(refine hM ?_;clear hM M;try clear hK K)|refine Wb.h fun K hK=>?_|(refine hK _ ?_;clear hK K)|(refine wT ?_ ?_;· assumption)|(refine wF ?_ ?_;· assumption))|((with_reducible refine kQ ?_ ?_);kernel_rfl)|((with_reducible refine k1 ?_ ?_);rfl)|((with_reducible refine k0 ?_ ?_);rfl)|((with_reducible apply kB)<;>first|rfl|intro h)|((with_reducible refine kM ?_ ?_);rfl)|(with_reducible refine Wq.h ?_ ?_)<;>intro h<;>try (exfalso;omega)|(with_reducible refine Wu.h ?_ ?_)<;>intro h<;>try simp only [h]|((fail_if_success with_reducible refine Wz.h ?_);first|simp (disch:=omega) only [↓LD,LA,loadA_rf,seval,LSt,at1_fNn,len_fNn,Nn.cs]|((with_reducible refine And.intro ?_ ?_);omega)|simp only [D.int,D.bool]))
  all_goals exact end3 rfl rfl rfl rfl rfl rfl (by kernel_rfl) (hQ _ _ (by simp only [beginP,tri,ne_eq, *,not_false_eq_true,not_true_eq_false,↓reduceIte,or_true,true_or,or_false,false_or,or_self,Bool.false_eq_true,Bool.true_eq_false,and_true,true_and,and_false,false_and]<;>rfl) (by simp only [beginP,tri,ne_eq, *,not_false_eq_true,not_true_eq_false,↓reduceIte,or_true,true_or,or_false,false_or,or_self,Bool.false_eq_true,Bool.true_eq_false,and_true,true_and,and_false,false_and]<;>rfl))
def finishP (p : Pn) (node try_ : Int) (ok : Bool) (data : Bs) : Int × Pn :=
  if openP p.s ≠ 0 then (openP p.s,p) else if node < 0 then (1,p) else if (p.s.nodes.length : Int) ≤ node then (1,p) else if (40 : Int) < data.length then (1,p) else if ok = false ∧ (0 : Int) < data.length then (1,p)
  else if ¬ (gt p.s.nodes node.toNat).st = 1 then (4,p) else if ¬ (gt p.s.nodes node.toNat).tr = try_ then (4,p)
  else if ok = true then writeP p ⟨0,0,0,3,node,try_,[],data,[]⟩ else writeP p ⟨0,0,0,4,node,try_,[],[],[]⟩
theorem c_pen_Finish (p : Pn) (node : Int) (try_ : Int) (ok : Bool) (data : Bs) (ho : Ok12 p.s) (hl : p.out.length ≤ 1000000) (hd : data.length ≤ 1000000) : Con Tryz.prog 63 [.pt 0 0,D.int node,D.int try_,D.bool ok,.f (fY data)] [pnB p] fun r H'=>r = D.int (finishP p node try_ ok data).1 ∧ H' = [pnB (finishP p node try_ ok data).2]:=by
  obtain ⟨s,ver,now,out⟩:=p
  suffices hh : ∀ Q : D → List Row → Prop,(∀ r H',r = D.int (finishP ⟨s,ver,now,out⟩ node try_ ok data).1 → H' = [pnB (finishP ⟨s,ver,now,out⟩ node try_ ok data).2] → Q r H') → Con Tryz.prog 63 [.pt 0 0,D.int node,D.int try_,D.bool ok,.f (fY data)] [pnB ⟨s,ver,now,out⟩] Q from hh _ fun _ _ h1 h2=>⟨h1,h2⟩
  intro Q hQ
  dsimp only at ho hl
  haveI : Kn (Ok12 s):=⟨ho⟩
  haveI : Kn (Wk12 s):=⟨ho.wk⟩
  haveI : Kn (out.length ≤ 1000000):=⟨hl⟩
  haveI : Kn (data.length ≤ 1000000):=⟨hd⟩
  refine Con.walk good fn_pen_Finish (by simp) ?_
  unfold s_pen_Finish
  simp only [argsE,pnB,pnD]
  cases ok
  all_goals
    repeat' (first|(with_reducible first|refine Wx.h ?_|refine We.h fun K hK=>?_|refine Wd.h fun K M hK hM=>?_|(refine hK _ _ _ _ ?_;clear hK K;try clear hM M)|(refine hM ?_;clear hM M;try clear hK K)|refine Wb.h fun K hK=>?_|(refine hK _ ?_;clear hK K)|(refine wT ?_ ?_;· assumption)|(refine wF ?_ ?_;· assumption))|((with_reducible refine kQ ?_ ?_);kernel_rfl)|((with_reducible refine k1 ?_ ?_);rfl)|((with_reducible refine k0 ?_ ?_);rfl)|((with_reducible apply kB)<;>first|rfl|intro h)|((with_reducible refine kM ?_ ?_);rfl)|(with_reducible refine Wq.h ?_ ?_)<;>intro h<;>try (exfalso;omega)|(with_reducible refine Wu.h ?_ ?_)<;>intro h<;>try simp only [h]|((fail_if_success with_reducible refine Wz.h ?_);first|simp (disch:=omega) only [↓LD,LA,loadA_rf,seval,LSt,at0_fNn,at1_fNn,len_fNn,Nn.cs]|((with_reducible refine And.intro ?_ ?_);omega)|simp only [D.int,D.bool]))
  all_goals exact end1 rfl rfl (by kernel_rfl) .f (hQ _ _ (by simp only [finishP,ne_eq, *,not_false_eq_true,not_true_eq_false,↓reduceIte,or_true,true_or,or_false,false_or,or_self,Bool.false_eq_true,Bool.true_eq_false,and_true,true_and,and_false,false_and]<;>rfl) (by simp only [finishP,ne_eq, *,not_false_eq_true,not_true_eq_false,↓reduceIte,or_true,true_or,or_false,false_or,or_self,Bool.false_eq_true,Bool.true_eq_false,and_true,true_and,and_false,false_and]<;>rfl))
def armP (p : Pn) (name : Bs) (span : Int) : Int × Pn :=
  if openP p.s ≠ 0 then (openP p.s,p) else if (!nameB name) = true then (1,p) else if span < 1 then (1,p) else if 1048576 < span then (1,p) else writeP p ⟨0,0,0,5,0,span,name,[],[]⟩
theorem c_pen_Arm (p : Pn) (name : Bs) (span : Int) (ho : Ok12 p.s) (hl : p.out.length ≤ 1000000) (hd : name.length ≤ 1000000) : Con Tryz.prog 65 [.pt 0 0,.f (.v (.string (BB name))),D.int span] [pnB p] fun r H'=>r = D.int (armP p name span).1 ∧ H' = [pnB (armP p name span).2]:=by
  obtain ⟨s,ver,now,out⟩:=p
  suffices hh : ∀ Q : D → List Row → Prop,(∀ r H',r = D.int (armP ⟨s,ver,now,out⟩ name span).1 → H' = [pnB (armP ⟨s,ver,now,out⟩ name span).2] → Q r H') → Con Tryz.prog 65 [.pt 0 0,.f (.v (.string (BB name))),D.int span] [pnB ⟨s,ver,now,out⟩] Q from hh _ fun _ _ h1 h2=>⟨h1,h2⟩
  intro Q hQ
  dsimp only at ho hl
  haveI : Kn (Ok12 s):=⟨ho⟩
  haveI : Kn (Wk12 s):=⟨ho.wk⟩
  haveI : Kn (out.length ≤ 1000000):=⟨hl⟩
  haveI : Kn (name.length ≤ 1000000):=⟨hd⟩
  refine Con.walk good fn_pen_Arm (by simp) ?_
  unfold s_pen_Arm
  simp only [argsE,pnB,pnD]
  repeat' (first|(with_reducible first|refine Wx.h ?_|refine We.h fun K hK=>?_|refine Wd.h fun K M hK hM=>?_|(refine hK _ _ _ _ ?_;clear hK K;try clear hM M)|(refine hM ?_;clear hM M;try clear hK K)|refine Wb.h fun K hK=>?_|(refine hK _ ?_;clear hK K)|(refine wT ?_ ?_;· assumption)|(refine wF ?_ ?_;· assumption))|((with_reducible refine kQ ?_ ?_);kernel_rfl)|((with_reducible refine k1 ?_ ?_);rfl)|((with_reducible refine k0 ?_ ?_);rfl)|((with_reducible apply kB)<;>first|rfl|intro h)|((with_reducible refine kM ?_ ?_);rfl)|(with_reducible refine Wq.h ?_ ?_)<;>intro h<;>try (exfalso;omega)|(with_reducible refine Wu.h ?_ ?_)<;>intro h<;>try simp only [h]|((fail_if_success with_reducible refine Wz.h ?_);first|simp (disch:=omega) only [↓LD,LA,loadA_rf,seval]|((with_reducible refine And.intro ?_ ?_);omega)|simp only [D.int,D.bool]))
  all_goals exact end1 rfl rfl (by kernel_rfl) .f (hQ _ _ (by simp only [armP,ne_eq, *,not_false_eq_true,not_true_eq_false,↓reduceIte,or_true,true_or,or_false,false_or,or_self,Bool.false_eq_true,Bool.true_eq_false,and_true,true_and,and_false,false_and]<;>rfl) (by simp only [armP,ne_eq, *,not_false_eq_true,not_true_eq_false,↓reduceIte,or_true,true_or,or_false,false_or,or_self,Bool.false_eq_true,Bool.true_eq_false,and_true,true_and,and_false,false_and]<;>rfl))
def signalP (p : Pn) (name data : Bs) : (Bool × Int) × Pn :=
  if p.s.id = 0 then ((false,3),p) else if (!nameB name) = true then ((false,1),p) else if (40 : Int) < data.length then ((false,1),p) else if hasSg p.s.sgs name = true then ((false,0),p) else if p.s.closed ≠ 0 then ((false,12),p)
  else if (writeP p ⟨0,0,0,7,0,0,name,data,[]⟩).1 ≠ 0 then ((false,(writeP p ⟨0,0,0,7,0,0,name,data,[]⟩).1),(writeP p ⟨0,0,0,7,0,0,name,data,[]⟩).2) else ((true,0),(writeP p ⟨0,0,0,7,0,0,name,data,[]⟩).2)
def duo (x : Bool × Int) : List D:=[D.bool x.1,D.int x.2]
theorem c_pen_Signal (p : Pn) (name : Bs) (data : Bs) (ho : Ok12 p.s) (hl : p.out.length ≤ 1000000) (hn : name.length ≤ 1000000) (hd : data.length ≤ 1000000) : Con Tryz.prog 67 [.pt 0 0,.f (.v (.string (BB name))),.f (fY data)] [pnB p] fun r H'=>r = .tp (duo (signalP p name data).1) ∧ H' = [pnB (signalP p name data).2]:=by
  obtain ⟨s,ver,now,out⟩:=p
  suffices hh : ∀ Q : D → List Row → Prop,(∀ r H',r = .tp (duo (signalP ⟨s,ver,now,out⟩ name data).1) → H' = [pnB (signalP ⟨s,ver,now,out⟩ name data).2] → Q r H') → Con Tryz.prog 67 [.pt 0 0,.f (.v (.string (BB name))),.f (fY data)] [pnB ⟨s,ver,now,out⟩] Q from hh _ fun _ _ h1 h2=>⟨h1,h2⟩
  intro Q hQ
  dsimp only at ho hl
  haveI : Kn (Ok12 s):=⟨ho⟩
  haveI : Kn (Wk12 s):=⟨ho.wk⟩
  haveI : Kn (out.length ≤ 1000000):=⟨hl⟩
  haveI : Kn (name.length ≤ 1000000):=⟨hn⟩
  haveI : Kn (data.length ≤ 1000000):=⟨hd⟩
  refine Con.walk good fn_pen_Signal (by simp) ?_
  unfold s_pen_Signal
  simp only [argsE,pnB,pnD]
  repeat' (first|(with_reducible first|refine Wx.h ?_|refine We.h fun K hK=>?_|refine Wd.h fun K M hK hM=>?_|(refine hK _ _ _ _ ?_;clear hK K;try clear hM M)|(refine hM ?_;clear hM M;try clear hK K)|refine Wb.h fun K hK=>?_|(refine hK _ ?_;clear hK K)|(refine wT ?_ ?_;· assumption)|(refine wF ?_ ?_;· assumption))|((with_reducible refine kQ ?_ ?_);kernel_rfl)|((with_reducible refine k1 ?_ ?_);rfl)|((with_reducible refine k0 ?_ ?_);rfl)|((with_reducible apply kB)<;>first|rfl|intro h)|((with_reducible refine kM ?_ ?_);rfl)|(with_reducible refine Wq.h ?_ ?_)<;>intro h<;>try (exfalso;omega)|(with_reducible refine Wu.h ?_ ?_)<;>intro h<;>try simp only [h]|((fail_if_success with_reducible refine Wz.h ?_);first|simp (disch:=omega) only [↓LD,LA,loadA_rf,seval]|((with_reducible refine And.intro ?_ ?_);omega)|simp only [D.int,D.bool]))
  all_goals exact end2 rfl rfl rfl rfl (by kernel_rfl) (.tps (.cons .f (.cons .f .nil))) (hQ _ _ (by simp only [signalP,duo,ne_eq, *,not_false_eq_true,not_true_eq_false,↓reduceIte,or_true,true_or,or_false,false_or,or_self,Bool.false_eq_true,Bool.true_eq_false,and_true,true_and,and_false,false_and]<;>rfl) (by first|(unfold signalP;rw [if_pos (by assumption)];rfl)|simp only [signalP,duo,ne_eq, *,not_false_eq_true,not_true_eq_false,↓reduceIte,or_true,true_or,or_false,false_or,or_self,Bool.false_eq_true,Bool.true_eq_false,and_true,true_and,and_false,false_and]<;>rfl))
def cancelP (p : Pn) : Int × Pn:=if openP p.s ≠ 0 then (openP p.s,p) else writeP p ⟨0,0,0,8,0,0,[],[],[]⟩
theorem c_pen_Cancel (p : Pn) (ho : Ok12 p.s) (hl : p.out.length ≤ 1000000) : Con Tryz.prog 69 [.pt 0 0] [pnB p] fun r H'=>r = D.int (cancelP p).1 ∧ H' = [pnB (cancelP p).2]:=by
  obtain ⟨s,ver,now,out⟩:=p
  suffices hh : ∀ Q : D → List Row → Prop,(∀ r H',r = D.int (cancelP ⟨s,ver,now,out⟩).1 → H' = [pnB (cancelP ⟨s,ver,now,out⟩).2] → Q r H') → Con Tryz.prog 69 [.pt 0 0] [pnB ⟨s,ver,now,out⟩] Q from hh _ fun _ _ h1 h2=>⟨h1,h2⟩
  intro Q hQ
  dsimp only at ho hl
  haveI : Kn (Ok12 s):=⟨ho⟩
  haveI : Kn (Wk12 s):=⟨ho.wk⟩
  haveI : Kn (out.length ≤ 1000000):=⟨hl⟩
  refine Con.walk good fn_pen_Cancel (by simp) ?_
  unfold s_pen_Cancel
  simp only [argsE,pnB,pnD]
  repeat' (first|(with_reducible first|refine Wx.h ?_|refine We.h fun K hK=>?_|refine Wd.h fun K M hK hM=>?_|(refine hK _ _ _ _ ?_;clear hK K;try clear hM M)|(refine hM ?_;clear hM M;try clear hK K)|refine Wb.h fun K hK=>?_|(refine hK _ ?_;clear hK K)|(refine wT ?_ ?_;· assumption)|(refine wF ?_ ?_;· assumption))|((with_reducible refine kQ ?_ ?_);kernel_rfl)|((with_reducible refine k1 ?_ ?_);rfl)|((with_reducible refine k0 ?_ ?_);rfl)|((with_reducible apply kB)<;>first|rfl|intro h)|((with_reducible refine kM ?_ ?_);rfl)|(with_reducible refine Wq.h ?_ ?_)<;>intro h<;>try (exfalso;omega)|(with_reducible refine Wu.h ?_ ?_)<;>intro h<;>try simp only [h]|((fail_if_success with_reducible refine Wz.h ?_);first|simp (disch:=omega) only [↓LD,LA,loadA_rf,seval]|((with_reducible refine And.intro ?_ ?_);omega)|simp only [D.int,D.bool]))
  all_goals exact end1 rfl rfl (by kernel_rfl) .f (hQ _ _ (by simp only [cancelP,ne_eq, *,not_false_eq_true,not_true_eq_false,↓reduceIte,or_true,true_or,or_false,false_or,or_self,Bool.false_eq_true,Bool.true_eq_false,and_true,true_and,and_false,false_and]<;>rfl) (by simp only [cancelP,ne_eq, *,not_false_eq_true,not_true_eq_false,↓reduceIte,or_true,true_or,or_false,false_or,or_self,Bool.false_eq_true,Bool.true_eq_false,and_true,true_and,and_false,false_and]<;>rfl))
def termP (p : Pn) : Int × Pn:=if openP p.s ≠ 0 then (openP p.s,p) else writeP p ⟨0,0,0,12,0,0,[],[],[]⟩
theorem c_pen_Terminate (p : Pn) (ho : Ok12 p.s) (hl : p.out.length ≤ 1000000) : Con Tryz.prog 70 [.pt 0 0] [pnB p] fun r H'=>r = D.int (termP p).1 ∧ H' = [pnB (termP p).2]:=by
  obtain ⟨s,ver,now,out⟩:=p
  suffices hh : ∀ Q : D → List Row → Prop,(∀ r H',r = D.int (termP ⟨s,ver,now,out⟩).1 → H' = [pnB (termP ⟨s,ver,now,out⟩).2] → Q r H') → Con Tryz.prog 70 [.pt 0 0] [pnB ⟨s,ver,now,out⟩] Q from hh _ fun _ _ h1 h2=>⟨h1,h2⟩
  intro Q hQ
  dsimp only at ho hl
  haveI : Kn (Ok12 s):=⟨ho⟩
  haveI : Kn (Wk12 s):=⟨ho.wk⟩
  haveI : Kn (out.length ≤ 1000000):=⟨hl⟩
  refine Con.walk good fn_pen_Terminate (by simp) ?_
  unfold s_pen_Terminate
  simp only [argsE,pnB,pnD]
  repeat' (first|(with_reducible first|refine Wx.h ?_|refine We.h fun K hK=>?_|refine Wd.h fun K M hK hM=>?_|(refine hK _ _ _ _ ?_;clear hK K;try clear hM M)|(refine hM ?_;clear hM M;try clear hK K)|refine Wb.h fun K hK=>?_|(refine hK _ ?_;clear hK K)|(refine wT ?_ ?_;· assumption)|(refine wF ?_ ?_;· assumption))|((with_reducible refine kQ ?_ ?_);kernel_rfl)|((with_reducible refine k1 ?_ ?_);rfl)|((with_reducible refine k0 ?_ ?_);rfl)|((with_reducible apply kB)<;>first|rfl|intro h)|((with_reducible refine kM ?_ ?_);rfl)|(with_reducible refine Wq.h ?_ ?_)<;>intro h<;>try (exfalso;omega)|(with_reducible refine Wu.h ?_ ?_)<;>intro h<;>try simp only [h]|((fail_if_success with_reducible refine Wz.h ?_);first|simp (disch:=omega) only [↓LD,LA,loadA_rf,seval]|((with_reducible refine And.intro ?_ ?_);omega)|simp only [D.int,D.bool]))
  all_goals exact end1 rfl rfl (by kernel_rfl) .f (hQ _ _ (by simp only [termP,ne_eq, *,not_false_eq_true,not_true_eq_false,↓reduceIte,or_true,true_or,or_false,false_or,or_self,Bool.false_eq_true,Bool.true_eq_false,and_true,true_and,and_false,false_and]<;>rfl) (by simp only [termP,ne_eq, *,not_false_eq_true,not_true_eq_false,↓reduceIte,or_true,true_or,or_false,false_or,or_self,Bool.false_eq_true,Bool.true_eq_false,and_true,true_and,and_false,false_and]<;>rfl))
set_option maxHeartbeats 4000000
def newE (l : List Ev) (ver now : Int) : Int :=
  if (foldR s0 l).1 ≠ 0 then 1 else if (!verB ver) = true then 1 else if now < 0 then 1 else if 1099511627776 < now then 1 else if ver < (foldR s0 l).2.ver then 4 else 0
structure PnOk (b : S12) (p : Pn) : Prop where
  base : Ok12 b
  ok : Ok12 p.s
  out : foldR b p.out = (0,p.s)
  fit : ∀ e ∈ p.out,FitV e
theorem foldR_id : ∀ {l : List Ev} {s : S12},(foldR s l).1 = 0 → (foldR s l).2.id = s.id + l.length
  | [],s,_=>by simp [foldR]
  | e :: l,s,h=>by
    rw [foldR] at h ⊢
    by_cases a : (applyR s e).1 = 0
    · rw [if_pos a] at h ⊢
      have h1:=foldR_id h
      obtain ⟨_,a2,_,_,_,_,_,a8⟩:=applyR_ok a
      rw [h1,a8]
      simp only [List.length_cons]
      omega
    · rw [if_neg a] at h;exact absurd h a
theorem PnOk.len {b : S12} {p : Pn} (h : PnOk b p) : p.out.length ≤ 200:=by
  have h1:=foldR_id (l:=p.out) (s:=b) (by rw [h.out])
  rw [h.out] at h1
  have h2:=h.ok.id
  have h3:=h.base.id
  dsimp only at h1
  omega
theorem fold_snoc {b s t : S12} {l : List Ev} {e : Ev} (h : foldR b l = (0,s)) (ha : (applyR s e).1 = 0) (ht : (applyR s e).2 = t) : foldR b (l ++ [e]) = (0,t):=by
  rw [foldR_app (by rw [h]),h]
  dsimp only
  rw [foldR,if_pos ha,ht,foldR]
theorem PnOk.snoc {b s t : S12} {ver now : Int} {l : List Ev} {e : Ev} (h : PnOk b ⟨s,ver,now,l⟩) (he : FitV e) (ha : (applyR s e).1 = 0) (ht : (applyR s e).2 = t) : PnOk b ⟨t,ver,now,l ++ [e]⟩ :=
  ⟨h.base,by have:=ok12_apply h.ok he.2.2.2 ha;rw [ht] at this;exact this,fold_snoc h.out ha ht,fun x hx=>by
    rcases List.mem_append.1 hx with hx|hx
    · exact h.fit x hx
    · obtain rfl:=List.mem_singleton.1 hx;exact he⟩
theorem fitv0 (p : Pn) (k : Int) : FitV (nextP p (ev0 k)):=⟨by simp [nextP,ev0],by simp [nextP,ev0],⟨by simp [nextP,ev0],by simp [nextP,ev0]⟩⟩
theorem writeP_is (p : Pn) (e : Ev) : ((writeP p e).1 ≠ 0 ∧ (writeP p e).2 = p) ∨
    ((writeP p e).1 = 0 ∧ p.s.id < 200 ∧ (applyR p.s (nextP p e)).1 = 0 ∧ endingL (applyR p.s (nextP p e)).2 = 0 ∧ (writeP p e).2 = { p with s:=(applyR p.s (nextP p e)).2,out:=p.out ++ [nextP p e] }) ∨
    ((writeP p e).1 = 0 ∧ p.s.id < 200 ∧ (applyR p.s (nextP p e)).1 = 0 ∧ endingL (applyR p.s (nextP p e)).2 ≠ 0 ∧ ∃ f,f = nextP { p with s:=(applyR p.s (nextP p e)).2 } (ev0 (endingL (applyR p.s (nextP p e)).2)) ∧ (applyR (applyR p.s (nextP p e)).2 f).1 = 0 ∧
      (writeP p e).2 = { p with s:=(applyR (applyR p.s (nextP p e)).2 f).2,out:=p.out ++ [nextP p e,f] }):=by
  unfold writeP
  by_cases a1 : 200 < p.s.id + 1
  · rw [if_pos a1]
    refine .inl ?_
    split
    · exact ⟨by assumption,rfl⟩
    · exact ⟨by simp,rfl⟩
  rw [if_neg a1]
  by_cases a2 : (applyR p.s (nextP p e)).1 ≠ 0
  · rw [if_pos a2];exact .inl ⟨a2,rfl⟩
  rw [if_neg a2]
  have a3:=Decidable.not_not.1 a2
  unfold endP
  by_cases a4 : endingL (applyR p.s (nextP p e)).2 ≠ 0
  · rw [if_pos a4]
    by_cases a5 : 200 < (applyR p.s (nextP p e)).2.id + 1
    · rw [if_pos a5];exact .inl ⟨by simp,rfl⟩
    rw [if_neg a5]
    by_cases a6 : (applyR (applyR p.s (nextP p e)).2 (nextP { p with s:=(applyR p.s (nextP p e)).2 } (ev0 (endingL (applyR p.s (nextP p e)).2)))).1 ≠ 0
    · rw [if_pos a6];exact .inl ⟨a6,rfl⟩
    rw [if_neg a6]
    exact .inr (.inr ⟨rfl,by omega,a3,a4,_,rfl,Decidable.not_not.1 a6,rfl⟩)
  · rw [if_neg a4]
    exact .inr (.inl ⟨rfl,by omega,a3,Decidable.not_not.1 a4,rfl⟩)
theorem writeP_ok {b : S12} {p : Pn} {e : Ev} (h : PnOk b p) (he : FitV e) : PnOk b (writeP p e).2:=by
  obtain ⟨s,ver,now,out⟩:=p
  have hn : FitV (nextP ⟨s,ver,now,out⟩ e):=he
  rcases writeP_is ⟨s,ver,now,out⟩ e with ⟨_,h2⟩|⟨_,_,h2,_,h3⟩|⟨_,_,h2,_,f,hf,h3,h4⟩
  · rw [h2];exact h
  · rw [h3];exact h.snoc hn h2 rfl
  · rw [h4]
    have h1:=(h.snoc hn h2 rfl).snoc (by rw [hf];exact fitv0 _ _) h3 rfl
    rw [List.append_assoc] at h1
    exact h1
theorem fitv_mk {a b c ty node n : Int} {nm dt : Bs} {df : List Nd} (h1 : nm.length ≤ 1000000) (h2 : dt.length ≤ 1000000) (h3 : Fit df) : FitV ⟨a,b,c,ty,node,n,nm,dt,df⟩:=⟨h2,h1,h3⟩
theorem fit_nil : Fit []:=⟨by simp,by simp⟩
theorem startP_ok {b : S12} {p : Pn} {ds : List Nd} (h : PnOk b p) (hd : Fit ds) : PnOk b (startP p ds).2:=by
  unfold startP
  split
  · exact h
  · split
    · exact h
    · exact writeP_ok h (fitv_mk (by simp) (by simp) hd)
theorem beginP_ok {b : S12} {p : Pn} (h : PnOk b p) : PnOk b (beginP p).2:=by
  unfold beginP
  split
  · exact h
  · split
    · exact h
    · split<;>exact writeP_ok h (fitv_mk (by simp) (by simp) fit_nil)
theorem finishP_ok {b : S12} {p : Pn} {i t : Int} {ok : Bool} {d : Bs} (h : PnOk b p) (hd : d.length ≤ 1000000) : PnOk b (finishP p i t ok d).2:=by
  unfold finishP
  repeat' split
  all_goals first|exact h|exact writeP_ok h (fitv_mk (by simp) hd fit_nil)|exact writeP_ok h (fitv_mk (by simp) (by simp) fit_nil)
theorem armP_ok {b : S12} {p : Pn} {nm : Bs} {t : Int} (h : PnOk b p) (hn : nm.length ≤ 1000000) : PnOk b (armP p nm t).2:=by
  unfold armP
  repeat' split
  all_goals first|exact h|exact writeP_ok h (fitv_mk hn (by simp) fit_nil)
theorem signalP_ok {b : S12} {p : Pn} {nm d : Bs} (h : PnOk b p) (hn : nm.length ≤ 1000000) (hd : d.length ≤ 1000000) : PnOk b (signalP p nm d).2:=by
  unfold signalP
  repeat' split
  all_goals first|exact h|exact writeP_ok h (fitv_mk hn hd fit_nil)
theorem cancelP_ok {b : S12} {p : Pn} (h : PnOk b p) : PnOk b (cancelP p).2:=by
  unfold cancelP
  split
  · exact h
  · exact writeP_ok h (fitv_mk (by simp) (by simp) fit_nil)
theorem termP_ok {b : S12} {p : Pn} (h : PnOk b p) : PnOk b (termP p).2:=by
  unfold termP
  split
  · exact h
  · exact writeP_ok h (fitv_mk (by simp) (by simp) fit_nil)
set_option maxHeartbeats 4000000
theorem turnR_defs {s : S12} {e : Ev} (h : e.ty ≠ 1) : (turnR s e).2.defs = s.defs:=by
  unfold turnR nodeR timerR armL fireL signalL cancelL
  rw [if_neg h]
  repeat' split
  all_goals rfl
theorem turnR_tms {s : S12} {e : Ev} (h5 : e.ty ≠ 5) (h6 : e.ty ≠ 6) : (turnR s e).2.tms = s.tms:=by
  unfold turnR nodeR signalL cancelL
  rw [if_neg (show ¬ (e.ty = 5 ∨ e.ty = 6) by omega)]
  repeat' split
  all_goals rfl
theorem applyR_defs {s : S12} {e : Ev} (hi : s.id ≠ 0) (h : (applyR s e).1 = 0) : (applyR s e).2.defs = s.defs:=by
  obtain ⟨_,_,_,_,_,a6,_,a8⟩:=applyR_ok h
  rw [a8]
  exact turnR_defs (fun hh=>hi (a6.2 hh))
theorem writeP_defs {b : S12} {p : Pn} {e : Ev} (hi : p.s.id ≠ 0) (hp : 0 ≤ p.s.id) : (writeP p e).2.s.defs = p.s.defs:=by
  rcases writeP_is p e with ⟨_,h2⟩|⟨_,_,h2,_,h3⟩|⟨_,_,h2,_,f,hf,h3,h4⟩
  · rw [h2]
  · rw [h3];exact applyR_defs hi h2
  · rw [h4]
    have h5:=applyR_defs hi h2
    obtain ⟨_,a2,_,_,_,_,_,a8⟩:=applyR_ok h2
    have h6:=applyR_defs (s:=(applyR p.s (nextP p e)).2) (e:=f) (by rw [a8];dsimp only;omega) h3
    dsimp only
    rw [h6,h5]
theorem writeP_len {b : S12} {p : Pn} {e : Ev} (h : PnOk b p) (he : FitV e) (hi : p.s.id ≠ 0) : (writeP p e).2.s.nodes.length = p.s.nodes.length:=by
  have h1:=(writeP_ok h he).ok.len
  rw [h1,writeP_defs (b:=b) hi h.ok.id.1,h.ok.len]
def unf (l : List Tm) : Nat:=l.countP fun x=>!x.fired
theorem unf_set {l : List Tm} {j : Nat} (hj : j < l.length) (hf : (gt l j).fired = false) : unf (l.set j { gt l j with fired:=true }) < unf l:=by
  have hg:=gt_eq hj
  have hc:=List.countP_set (p:=fun x : Tm=>!x.fired) (l:=l) (i:=j) (a:={ gt l j with fired:=true }) hj
  have hp : (!l[j].fired) = true:=by rw [← hg,hf];rfl
  have hpos : 0 < l.countP fun x=>!x.fired:=List.countP_pos_iff.2 ⟨l[j],List.getElem_mem hj,hp⟩
  unfold unf
  rw [hc]
  simp only [hp,Bool.not_true,if_true]
  simp
  omega
theorem fire_unf {s : S12} {e : Ev} (h6 : e.ty = 6) (h : (turnR s e).1 = 0) : unf (turnR s e).2.tms < unf s.tms:=by
  unfold turnR timerR fireL at h ⊢
  rw [if_neg (by omega),if_neg (by omega),if_pos (.inr h6),if_neg (by omega)] at h ⊢
  by_cases a1 : tmI s.tms e.name < 0
  · rw [if_pos a1] at h;cases h
  rw [if_neg a1] at h ⊢
  by_cases a2 : (gt s.tms (tmI s.tms e.name).toNat).fired = true ∨ e.time < (gt s.tms (tmI s.tms e.name).toNat).due
  · rw [if_pos a2] at h;cases h
  rw [if_neg a2]
  have:=tmI_lt s.tms e.name
  exact unf_set (by omega) (by cases hb : (gt s.tms (tmI s.tms e.name).toNat).fired with|false=>rfl|true=>exact absurd (.inl hb) a2)
theorem writeP_unf {p : Pn} {nm : Bs} (h : (writeP p ⟨0,0,0,6,0,0,nm,[],[]⟩).1 = 0) : unf (writeP p ⟨0,0,0,6,0,0,nm,[],[]⟩).2.s.tms < unf p.s.tms:=by
  rcases writeP_is p ⟨0,0,0,6,0,0,nm,[],[]⟩ with ⟨h1,h2⟩|⟨_,_,h2,_,h3⟩|⟨_,_,h2,_,f,hf,h3,h4⟩
  · exact absurd h h1
  · obtain ⟨_,_,_,_,_,_,a7,a8⟩:=applyR_ok h2
    rw [h3,a8]
    exact fire_unf rfl a7
  · obtain ⟨_,_,_,_,_,_,a7,a8⟩:=applyR_ok h2
    obtain ⟨_,_,_,_,_,_,b7,b8⟩:=applyR_ok h3
    have hk:=endingL_in (applyR p.s (nextP p ⟨0,0,0,6,0,0,nm,[],[]⟩)).2
    have ht : f.ty = endingL (applyR p.s (nextP p ⟨0,0,0,6,0,0,nm,[],[]⟩)).2:=by rw [hf];rfl
    rw [h4,b8]
    dsimp only
    rw [turnR_tms (by omega) (by omega),a8]
    exact fire_unf rfl a7
def lateN (now : Int) : Nat → Nat → Pn → Int → Int × Pn × Bool
  | 0,_,p,n=>(n,p,false)
  | k + 1,i,p,n =>
    if p.s.closed ≠ 0 then (n,p,false)
    else if (gt p.s.nodes i).st ≠ 1 then lateN now k (i + 1) p n
    else if now < (gt p.s.nodes i).due then lateN now k (i + 1) p n
    else if (writeP p ⟨0,0,0,4,i,(gt p.s.nodes i).tr,[],[],[]⟩).1 ≠ 0 then (n,(writeP p ⟨0,0,0,4,i,(gt p.s.nodes i).tr,[],[],[]⟩).2,true)
    else lateN now k (i + 1) (writeP p ⟨0,0,0,4,i,(gt p.s.nodes i).tr,[],[],[]⟩).2 (n + 1)
def strLt (a b : Bs) : Bool:=Op.bytesLess (BB a).toList (BB b).toList
def befT (x y : Tm) : Bool:=decide (x.due < y.due) || (decide (x.due = y.due) && strLt x.name y.name)
def pickF (now : Int) (tms : List Tm) : Nat → Int → List Tm → Int
  | _,k,[]=>k
  | i,k,x :: l =>
    if x.fired = true then pickF now tms (i + 1) k l else if now < x.due then pickF now tms (i + 1) k l
    else if k < 0 ∨ befT x (gt tms k.toNat) = true then pickF now tms (i + 1) i l else pickF now tms (i + 1) k l
def lateT (now : Int) : Nat → Pn → Int → Int × Pn
  | 0,p,n=>(n,p)
  | f + 1,p,n =>
    if p.s.closed ≠ 0 then (n,p) else if pickF now p.s.tms 0 (-1) p.s.tms < 0 then (n,p)
    else if (writeP p ⟨0,0,0,6,0,0,(gt p.s.tms (pickF now p.s.tms 0 (-1) p.s.tms).toNat).name,[],[]⟩).1 ≠ 0 then (n,(writeP p ⟨0,0,0,6,0,0,(gt p.s.tms (pickF now p.s.tms 0 (-1) p.s.tms).toNat).name,[],[]⟩).2)
    else lateT now f (writeP p ⟨0,0,0,6,0,0,(gt p.s.tms (pickF now p.s.tms 0 (-1) p.s.tms).toNat).name,[],[]⟩).2 (n + 1)
def lateP (p : Pn) : Int × Pn :=
  if (lateN (max p.now p.s.time) p.s.nodes.length 0 p 0).2.2 = true then ((lateN (max p.now p.s.time) p.s.nodes.length 0 p 0).1,(lateN (max p.now p.s.time) p.s.nodes.length 0 p 0).2.1)
  else lateT (max p.now p.s.time) (unf (lateN (max p.now p.s.time) p.s.nodes.length 0 p 0).2.1.s.tms + 1) (lateN (max p.now p.s.time) p.s.nodes.length 0 p 0).2.1 (lateN (max p.now p.s.time) p.s.nodes.length 0 p 0).1
theorem pickF_in (now : Int) (tms : List Tm) : ∀ (i : Nat) (k : Int) (l : List Tm),k < i + l.length → pickF now tms i k l < i + l.length
  | _,_,[],h=>h
  | i,k,x :: l,h=>by
    rw [pickF]
    simp only [List.length_cons] at h ⊢
    split
    · have:=pickF_in now tms (i + 1) k l (by omega);omega
    · split
      · have:=pickF_in now tms (i + 1) k l (by omega);omega
      · split
        · have:=pickF_in now tms (i + 1) i l (by omega);omega
        · have:=pickF_in now tms (i + 1) k l (by omega);omega
theorem lateN_ok {b : S12} {now : Int} : ∀ {k i : Nat} {p : Pn} {n : Int},PnOk b p → PnOk b (lateN now k i p n).2.1
  | 0,_,_,_,h=>h
  | k + 1,i,p,n,h=>by
    rw [lateN]
    have hw:=writeP_ok (e:=⟨0,0,0,4,i,(gt p.s.nodes i).tr,[],[],[]⟩) h (fitv_mk (by simp) (by simp) fit_nil)
    split
    · exact h
    · split
      · exact lateN_ok h
      · split
        · exact lateN_ok h
        · split
          · exact hw
          · exact lateN_ok hw
theorem lateT_ok {b : S12} {now : Int} : ∀ {f : Nat} {p : Pn} {n : Int},PnOk b p → PnOk b (lateT now f p n).2
  | 0,_,_,h=>h
  | f + 1,p,n,h=>by
    rw [lateT]
    split
    · exact h
    · split
      · exact h
      · have hk:=pickF_in now p.s.tms 0 (-1) p.s.tms (by omega)
        have hn:=h.ok.tname _ (gt_mem (l:=p.s.tms) (k:=(pickF now p.s.tms 0 (-1) p.s.tms).toNat) (by omega))
        have hw:=writeP_ok (e:=⟨0,0,0,6,0,0,(gt p.s.tms (pickF now p.s.tms 0 (-1) p.s.tms).toNat).name,[],[]⟩) h (fitv_mk (by omega) (by simp) fit_nil)
        split
        · exact hw
        · exact lateT_ok hw
theorem lateP_ok {b : S12} {p : Pn} (h : PnOk b p) : PnOk b (lateP p).2:=by
  unfold lateP
  split
  · exact lateN_ok h
  · exact lateT_ok (lateN_ok h)
set_option maxHeartbeats 4000000
theorem HS.cutK {P : Program} {n : Nat} {c : SCode} {s : St} {Q : Out → St → Prop} (i : Nat) {α : Type} (st : α → St) (p : α → Prop)
    (h1 : ∀ K : Out → St → Prop,(∀ y,p y → ∀ s',View P n s' (st y) → K (.exit i) s') → (∀ s',Q .ret s' → K .ret s') → HS P n c s K) (h2 : ∀ y,p y → ∀ s',View P n s' (st y) → Q (.exit i) s') : HS P n c s Q:=h1 Q h2 fun _ h=>h
theorem lateT_fuel {now : Int} : ∀ {f g : Nat} {p : Pn} {n : Int},unf p.s.tms < f → unf p.s.tms < g → lateT now f p n = lateT now g p n
  | 0,_,_,_,h,_=>absurd h (by omega)
  | _,0,_,_,_,h=>absurd h (by omega)
  | f + 1,g + 1,p,n,hf,hg=>by
    rw [lateT,lateT]
    by_cases a1 : p.s.closed ≠ 0
    · rw [if_pos a1,if_pos a1]
    rw [if_neg a1,if_neg a1]
    by_cases a2 : pickF now p.s.tms 0 (-1) p.s.tms < 0
    · rw [if_pos a2,if_pos a2]
    rw [if_neg a2,if_neg a2]
    by_cases a3 : (writeP p ⟨0,0,0,6,0,0,(gt p.s.tms (pickF now p.s.tms 0 (-1) p.s.tms).toNat).name,[],[]⟩).1 ≠ 0
    · rw [if_pos a3,if_pos a3]
    rw [if_neg a3,if_neg a3]
    have:=writeP_unf (Decidable.not_not.1 a3)
    exact lateT_fuel (by omega) (by omega)
set_option maxRecDepth 100000 in
theorem c_pen_Late (b : S12) (p : Pn) (h : PnOk b p) : Con Tryz.prog 68 [.pt 0 0] [pnB p] fun r H'=>r = D.int (lateP p).1 ∧ H' = [pnB (lateP p).2]:=by
  suffices hh : ∀ Q : D → List Row → Prop,(∀ r H',r = D.int (lateP p).1 → H' = [pnB (lateP p).2] → Q r H') → Con Tryz.prog 68 [.pt 0 0] [pnB p] Q from hh _ fun _ _ h1 h2=>⟨h1,h2⟩
  intro Q hQ
  unfold lateP at hQ
  refine Con.walk good fn_pen_Late (by simp) ?_
  unfold s_pen_Late
  simp only [argsE,pnB,pnD]
  have hnl:=h.ok.wk.fit.fit.nodes
  generalize hN : max p.now p.s.time = N at hQ
  repeat' (first|(with_reducible first|refine Wx.h ?_|refine We.h fun K hK=>?_|refine Wd.h fun K M hK hM=>?_|(refine hK _ _ _ _ ?_;clear hK K;try clear hM M)|(refine hM ?_;clear hM M;try clear hK K)|refine Wb.h fun K hK=>?_|(refine hK _ ?_;clear hK K)|(refine wT ?_ ?_;· assumption)|(refine wF ?_ ?_;· assumption))|((with_reducible refine kQ ?_ ?_);kernel_rfl)|((with_reducible refine k1 ?_ ?_);rfl)|((with_reducible refine k0 ?_ ?_);rfl)|((with_reducible apply kB)<;>first|rfl|intro h)|((with_reducible refine kM ?_ ?_);rfl)|(with_reducible refine Wq.h ?_ ?_)<;>intro h<;>try (exfalso;omega)|(with_reducible refine Wu.h ?_ ?_)<;>intro h<;>try simp only [h]|((fail_if_success with_reducible refine Wz.h ?_);first|simp (disch:=omega) only [↓LD,LA,loadA_rf,seval,hN]|((with_reducible refine And.intro ?_ ?_);omega)|simp only [D.int,D.bool]))
  refine HS.cutK 0 (fun x : Pn × Int=>⟨frm 163 [(0,.pt 0 0),(3,D.int x.2),(4,D.int N)],[pnB x.1],[]⟩) (fun x=>PnOk b x.1 ∧ 0 ≤ x.2 ∧ x.2 ≤ 1000000 ∧ lateN N p.s.nodes.length 0 p 0 = (x.2,x.1,false)) ?_ ?_
  · intro K hx hr
    refine HS.loopG [0,3,4,5] (fun x : Nat × Pn × Int=>⟨frm 163 [(0,.pt 0 0),(3,D.int x.2.2),(4,D.int N),(5,D.int x.1)],[pnB x.2.1],[]⟩)
      (fun x=>x.1 ≤ p.s.nodes.length ∧ x.2.1.s.nodes.length = p.s.nodes.length ∧ PnOk b x.2.1 ∧ 0 ≤ x.2.2 ∧ x.2.2 ≤ x.1 ∧ lateN N p.s.nodes.length 0 p 0 = lateN N (p.s.nodes.length - x.1) x.1 x.2.1 x.2.2) (fun x=>p.s.nodes.length - x.1) (0,p,0) (by kernel_rfl) ⟨Nat.zero_le _,rfl,h,by simp,by simp,rfl⟩ ?_
    rintro ⟨i,⟨s,ver,now,out⟩,n⟩ ⟨hi,hl,ho,hn0,hn1,hF⟩
    dsimp only at hi hl ho hn0 hn1 hF
    by_cases hil : i < p.s.nodes.length
    · rw [show p.s.nodes.length - i = (p.s.nodes.length - (i + 1)) + 1 by omega,lateN] at hF
      dsimp only at hF
      have hok:=ho.ok
      have hid : s.id ≠ 0:=fun hh=>by have:=hok.wk.zero.2 hh;dsimp only at this;omega
      have hlen:=ho.len
      haveI : Kn (Ok12 s):=⟨hok⟩
      haveI : Kn (out.length ≤ 1000000):=⟨by dsimp only at hlen;omega⟩
      have hw:=writeP_ok (e:=⟨0,0,0,4,i,(gt s.nodes i).tr,[],[],[]⟩) ho (fitv_mk (by simp) (by simp) fit_nil)
      have hwl:=writeP_len (e:=⟨0,0,0,4,i,(gt s.nodes i).tr,[],[],[]⟩) ho (fitv_mk (by simp) (by simp) fit_nil) hid
      repeat' (first|(with_reducible first|refine Wx.h ?_|refine Wb.h fun K hK=>?_|(refine hK _ ?_;clear hK K)|(refine wT ?_ ?_;· assumption)|(refine wF ?_ ?_;· assumption))|((with_reducible refine kQ ?_ ?_);kernel_rfl)|((with_reducible refine k1 ?_ ?_);rfl)|((with_reducible refine k0 ?_ ?_);rfl)|((with_reducible apply kB)<;>first|rfl|intro h)|((with_reducible refine kM ?_ ?_);rfl)|(with_reducible refine Wq.h ?_ ?_)<;>intro h<;>try (exfalso;omega)|(with_reducible refine Wu.h ?_ ?_)<;>intro h<;>try simp only [h]|((fail_if_success with_reducible refine Wz.h ?_);first|simp (disch:=omega) only [↓LD,LA,loadA_rf,seval,LSt,pnB,pnD,load_fNn,len_fNn,Nn.cs,-loadA_rf,List.map_cons,List.map_nil]|((with_reducible refine And.intro ?_ ?_);omega)|simp only [D.int,D.bool]))
      · rw [if_neg (fun hh=>hh (show s.closed = 0 by assumption)),if_neg (fun hh=>hh (by assumption)),if_pos (by assumption)] at hF
        exact Next.mk (i + 1,⟨s,ver,now,out⟩,n) (by kernel_rfl) ⟨by omega,hl,ho,hn0,by dsimp only;omega,hF⟩ (by dsimp only;omega)
      · have hz : (writeP ⟨s,ver,now,out⟩ ⟨0,0,0,4,i,(gt s.nodes i).tr,[],[],[]⟩).1 = 0:=by assumption
        rw [if_neg (fun hh=>hh (show s.closed = 0 by assumption)),if_neg (fun hh=>hh (by assumption)),if_neg (by assumption),if_neg (fun hh=>hh hz)] at hF
        exact Next.mk (i + 1,(writeP ⟨s,ver,now,out⟩ ⟨0,0,0,4,i,(gt s.nodes i).tr,[],[],[]⟩).2,n + 1) (by kernel_rfl) ⟨by omega,hwl.trans hl,hw,by dsimp only;omega,by dsimp only;omega,hF⟩ (by dsimp only;omega)
      · have hz : (writeP ⟨s,ver,now,out⟩ ⟨0,0,0,4,i,(gt s.nodes i).tr,[],[],[]⟩).1 ≠ 0:=by assumption
        rw [if_neg (fun hh=>hh (show s.closed = 0 by assumption)),if_neg (fun hh=>hh (by assumption)),if_neg (by assumption),if_pos hz] at hF
        rw [hF,if_pos rfl] at hQ
        refine hr _ ?_
        repeat' (first|(with_reducible first|refine Wx.h ?_|refine Wb.h fun K hK=>?_|(refine hK _ ?_;clear hK K)|(refine wT ?_ ?_;· assumption)|(refine wF ?_ ?_;· assumption))|((with_reducible refine kQ ?_ ?_);kernel_rfl)|((with_reducible refine k1 ?_ ?_);rfl)|((with_reducible refine k0 ?_ ?_);rfl)|((with_reducible apply kB)<;>first|rfl|intro h)|((with_reducible refine kM ?_ ?_);rfl)|(with_reducible refine Wq.h ?_ ?_)<;>intro h<;>try (exfalso;omega)|(with_reducible refine Wu.h ?_ ?_)<;>intro h<;>try simp only [h]|((fail_if_success with_reducible refine Wz.h ?_);first|simp (disch:=omega) only [↓LD,LA,loadA_rf,seval]|((with_reducible refine And.intro ?_ ?_);omega)|simp only [D.int,D.bool]))
        exact end1 rfl rfl (by kernel_rfl) .f (hQ _ _ rfl rfl)
      · rw [if_neg (fun hh=>hh (show s.closed = 0 by assumption)),if_pos (by assumption)] at hF
        exact Next.mk (i + 1,⟨s,ver,now,out⟩,n) (by kernel_rfl) ⟨by omega,hl,ho,hn0,by dsimp only;omega,hF⟩ (by dsimp only;omega)
      · rw [if_pos (show s.closed ≠ 0 by assumption)] at hF
        exact hx (⟨s,ver,now,out⟩,n) ⟨ho,hn0,by dsimp only;omega,hF⟩ _ (View.sweep (keep:=[0,3,4]) (by kernel_rfl))
    · rw [show p.s.nodes.length - i = 0 by omega,lateN] at hF
      repeat' (first|(with_reducible first|refine Wx.h ?_|refine Wb.h fun K hK=>?_|(refine hK _ ?_;clear hK K)|(refine wT ?_ ?_;· assumption)|(refine wF ?_ ?_;· assumption))|((with_reducible refine kQ ?_ ?_);kernel_rfl)|((with_reducible refine k1 ?_ ?_);rfl)|((with_reducible refine k0 ?_ ?_);rfl)|((with_reducible apply kB)<;>first|rfl|intro h)|((with_reducible refine kM ?_ ?_);rfl)|(with_reducible refine Wq.h ?_ ?_)<;>intro h<;>try (exfalso;omega)|(with_reducible refine Wu.h ?_ ?_)<;>intro h<;>try simp only [h]|((fail_if_success with_reducible refine Wz.h ?_);first|simp (disch:=omega) only [↓LD,LA,loadA_rf,seval,LSt,pnB,pnD]|((with_reducible refine And.intro ?_ ?_);omega)|simp only [D.int,D.bool]))
      exact hx (⟨s,ver,now,out⟩,n) ⟨ho,hn0,by dsimp only;omega,hF⟩ _ (View.sweep (keep:=[0,3,4]) (by kernel_rfl))
  · rintro ⟨q,n⟩ ⟨ho,hn0,hn1,hF⟩ s' hv
    refine blockQ_hit ?_
    refine thenQ_n ?_
    refine HS.view hv ?_
    clear hv
    dsimp only at ho hn0 hn1 hF ⊢
    rw [hF,if_neg (by simp)] at hQ
    dsimp only at hQ
    clear hF
    generalize hLL : lateT N (unf q.s.tms + 1) q n = LL at hQ
    repeat' (first|(with_reducible first|refine Wx.h ?_|refine Wb.h fun K hK=>?_|(refine hK _ ?_;clear hK K)|(refine wT ?_ ?_;· assumption)|(refine wF ?_ ?_;· assumption))|((with_reducible refine kQ ?_ ?_);kernel_rfl)|((with_reducible refine k1 ?_ ?_);rfl)|((with_reducible refine k0 ?_ ?_);rfl)|((with_reducible apply kB)<;>first|rfl|intro h)|((with_reducible refine kM ?_ ?_);rfl)|(with_reducible refine Wq.h ?_ ?_)<;>intro h<;>try (exfalso;omega)|(with_reducible refine Wu.h ?_ ?_)<;>intro h<;>try simp only [h]|((fail_if_success with_reducible refine Wz.h ?_);first|simp (disch:=omega) only [↓LD,LA,loadA_rf,seval]|((with_reducible refine And.intro ?_ ?_);omega)|simp only [D.int,D.bool]))
    have hu0:=ho.ok.tms
    have hu1 : ∀ l : List Tm,unf l ≤ l.length:=fun l=>List.countP_le_length
    have hu2:=hu1 q.s.tms
    refine HS.loopG [0,3,4] (fun x : Pn × Int=>⟨frm 163 [(0,.pt 0 0),(3,D.int x.2),(4,D.int N)],[pnB x.1],[]⟩)
      (fun x=>PnOk b x.1 ∧ 0 ≤ x.2 ∧ x.2 + unf x.1.s.tms ≤ 2000000 ∧ LL = lateT N (unf x.1.s.tms + 1) x.1 x.2) (fun x=>unf x.1.s.tms) (q,n) (by kernel_rfl) ⟨ho,hn0,by dsimp only;omega,hLL.symm⟩ ?_
    clear ho hn0 hn1 hu0 hu2 hLL
    rintro ⟨⟨s,ver,now,out⟩,m⟩ ⟨ho,hn0,hn1,hF⟩
    dsimp only at ho hn0 hn1 hF
    have hok:=ho.ok
    dsimp only at hok
    have hlen:=ho.len
    haveI : Kn (Ok12 s):=⟨hok⟩
    haveI : Kn (out.length ≤ 1000000):=⟨by dsimp only at hlen;omega⟩
    have htl:=hok.tms
    rw [lateT] at hF
    repeat' (first|(with_reducible first|refine Wx.h ?_|refine Wb.h fun K hK=>?_|(refine hK _ ?_;clear hK K)|(refine wT ?_ ?_;· assumption)|(refine wF ?_ ?_;· assumption))|((with_reducible refine kQ ?_ ?_);kernel_rfl)|((with_reducible refine k1 ?_ ?_);rfl)|((with_reducible refine k0 ?_ ?_);rfl)|((with_reducible apply kB)<;>first|rfl|intro h)|((with_reducible refine kM ?_ ?_);rfl)|(with_reducible refine Wq.h ?_ ?_)<;>intro h<;>try (exfalso;omega)|(with_reducible refine Wu.h ?_ ?_)<;>intro h<;>try simp only [h]|((fail_if_success with_reducible refine Wz.h ?_);first|simp (disch:=omega) only [↓LD,LA,loadA_rf,seval,LSt,pnB,pnD]|((with_reducible refine And.intro ?_ ?_);omega)|simp only [D.int,D.bool]))
    rotate_left
    · rw [if_pos (show s.closed ≠ 0 by assumption)] at hF
      rw [hF] at hQ
      exact end1 rfl rfl (by kernel_rfl) .f (hQ _ _ rfl rfl)
    have hcl : s.closed = 0:=by assumption
    rw [if_neg (fun hh=>hh hcl)] at hF
    refine HS.loopG [0,3,4,7,8] (fun x : Nat × Int=>⟨frm 163 [(0,.pt 0 0),(3,D.int m),(4,D.int N),(7,D.int x.2),(8,D.int x.1)],[pnB ⟨s,ver,now,out⟩],[]⟩)
      (fun x=>x.1 ≤ s.tms.length ∧ -1 ≤ x.2 ∧ x.2 < x.1 ∧ pickF N s.tms 0 (-1) s.tms = pickF N s.tms x.1 x.2 (s.tms.drop x.1)) (fun x=>s.tms.length - x.1) (0,-1) (by kernel_rfl) ⟨Nat.zero_le _,by simp,by simp,rfl⟩ ?_
    rintro ⟨j,k⟩ ⟨hj,hk0,hk1,hP⟩
    dsimp only at hj hk0 hk1 hP
    by_cases hjl : j < s.tms.length
    · rw [drop_gt hjl,pickF] at hP
      have hbT : befT (gt s.tms j) (gt s.tms k.toNat) = true ↔ (gt s.tms j).due < (gt s.tms k.toNat).due ∨ ((gt s.tms j).due = (gt s.tms k.toNat).due ∧ Op.bytesLess (BB (gt s.tms j).name).toList (BB (gt s.tms k.toNat).name).toList = true):=by simp only [befT,strLt,Bool.or_eq_true,Bool.and_eq_true,decide_eq_true_eq]
      repeat' (first|(with_reducible first|refine Wx.h ?_|refine We.h fun K hK=>?_|refine Wd.h fun K M hK hM=>?_|(refine hK _ _ _ _ ?_;clear hK K;try clear hM M)|(refine hM ?_;clear hM M;try clear hK K)|refine Wb.h fun K hK=>?_|(refine hK _ ?_;clear hK K)|(refine wT ?_ ?_;· assumption)|(refine wF ?_ ?_;· assumption))|((with_reducible refine kQ ?_ ?_);kernel_rfl)|((with_reducible refine k1 ?_ ?_);rfl)|((with_reducible refine k0 ?_ ?_);rfl)|((with_reducible apply kB)<;>first|rfl|intro h)|((with_reducible refine kM ?_ ?_);rfl)|(with_reducible refine Wq.h ?_ ?_)<;>intro h<;>try (exfalso;omega)|(with_reducible refine Wu.h ?_ ?_)<;>intro h<;>try simp only [h]|((fail_if_success with_reducible refine Wz.h ?_);first|simp (disch:=omega) only [↓LD,LA,loadA_rf,seval,LSt,pnB,pnD,load_fTm,len_fTm,at0_fTm,at1_fTm,Tm.cs,-loadA_rf,List.map_cons,List.map_nil]|((with_reducible refine And.intro ?_ ?_);omega)|simp only [D.int,D.bool]))
      all_goals first
        | (rw [if_pos (show (gt s.tms j).fired = true by assumption)] at hP
           exact Next.mk (j + 1,k) (by kernel_rfl) ⟨by dsimp only;omega,hk0,by dsimp only;omega,hP⟩ (by dsimp only;omega))
        | (rw [if_neg (by rw [show (gt s.tms j).fired = false by assumption];simp),if_pos (show N < (gt s.tms j).due by assumption)] at hP
           exact Next.mk (j + 1,k) (by kernel_rfl) ⟨by dsimp only;omega,hk0,by dsimp only;omega,hP⟩ (by dsimp only;omega))
        | (rw [if_neg (by rw [show (gt s.tms j).fired = false by assumption];simp),if_neg (show ¬ N < (gt s.tms j).due by assumption),if_pos (.inl (show k < 0 by assumption))] at hP
           exact Next.mk (j + 1,(j : Int)) (by kernel_rfl) ⟨by dsimp only;omega,by dsimp only;omega,by dsimp only;omega,hP⟩ (by dsimp only;omega))
        | (rw [if_neg (by rw [show (gt s.tms j).fired = false by assumption];simp),if_neg (show ¬ N < (gt s.tms j).due by assumption),if_pos (.inr (hbT.2 (.inl (show (gt s.tms j).due < (gt s.tms k.toNat).due by assumption))))] at hP
           exact Next.mk (j + 1,(j : Int)) (by kernel_rfl) ⟨by dsimp only;omega,by dsimp only;omega,by dsimp only;omega,hP⟩ (by dsimp only;omega))
        | (rw [if_neg (by rw [show (gt s.tms j).fired = false by assumption];simp),if_neg (show ¬ N < (gt s.tms j).due by assumption),if_pos (.inr (hbT.2 (.inr ⟨show (gt s.tms j).due = (gt s.tms k.toNat).due by assumption,show Op.bytesLess (BB (gt s.tms j).name).toList (BB (gt s.tms k.toNat).name).toList = true by assumption⟩)))] at hP
           exact Next.mk (j + 1,(j : Int)) (by kernel_rfl) ⟨by dsimp only;omega,by dsimp only;omega,by dsimp only;omega,hP⟩ (by dsimp only;omega))
        | (rw [if_neg (by rw [show (gt s.tms j).fired = false by assumption];simp),if_neg (show ¬ N < (gt s.tms j).due by assumption),if_neg (fun hh=>hh.elim (show ¬ k < 0 by assumption) (fun hb=>(hbT.1 hb).elim (show ¬ (gt s.tms j).due < (gt s.tms k.toNat).due by assumption) (fun he=>(show ¬ (gt s.tms j).due = (gt s.tms k.toNat).due by assumption) he.1)))] at hP
           exact Next.mk (j + 1,k) (by kernel_rfl) ⟨by dsimp only;omega,hk0,by dsimp only;omega,hP⟩ (by dsimp only;omega))
        | (rw [if_neg (by rw [show (gt s.tms j).fired = false by assumption];simp),if_neg (show ¬ N < (gt s.tms j).due by assumption),if_neg (fun hh=>hh.elim (show ¬ k < 0 by assumption) (fun hb=>(hbT.1 hb).elim (show ¬ (gt s.tms j).due < (gt s.tms k.toNat).due by assumption) (fun he=>(show ¬ Op.bytesLess (BB (gt s.tms j).name).toList (BB (gt s.tms k.toNat).name).toList = true by assumption) he.2)))] at hP
           exact Next.mk (j + 1,k) (by kernel_rfl) ⟨by dsimp only;omega,hk0,by dsimp only;omega,hP⟩ (by dsimp only;omega))
    · rw [List.drop_of_length_le (by omega),pickF] at hP
      rw [hP] at hF
      have hn16 : 0 ≤ k → (gt s.tms k.toNat).name.length ≤ 16:=fun hk=>hok.tname _ (gt_mem (l:=s.tms) (k:=k.toNat) (by omega))
      by_cases hkz : k < 0
      · repeat' (first|(with_reducible first|refine Wx.h ?_|refine We.h fun K hK=>?_|refine Wd.h fun K M hK hM=>?_|(refine hK _ _ _ _ ?_;clear hK K;try clear hM M)|(refine hM ?_;clear hM M;try clear hK K)|refine Wb.h fun K hK=>?_|(refine hK _ ?_;clear hK K)|(refine wT ?_ ?_;· assumption)|(refine wF ?_ ?_;· assumption))|((with_reducible refine kQ ?_ ?_);kernel_rfl)|((with_reducible refine k1 ?_ ?_);rfl)|((with_reducible refine k0 ?_ ?_);rfl)|((with_reducible apply kB)<;>first|rfl|intro h)|((with_reducible refine kM ?_ ?_);rfl)|(with_reducible refine Wq.h ?_ ?_)<;>intro h<;>try (exfalso;omega)|(with_reducible refine Wu.h ?_ ?_)<;>intro h<;>try simp only [h]|((fail_if_success with_reducible refine Wz.h ?_);first|simp (disch:=omega) only [↓LD,LA,loadA_rf,seval,LSt,pnB,pnD,load_fTm,len_fTm,at0_fTm,at1_fTm,Tm.cs,-loadA_rf,List.map_cons,List.map_nil]|((with_reducible refine And.intro ?_ ?_);omega)|simp only [D.int,D.bool]))
        rw [if_pos hkz] at hF
        rw [hF] at hQ
        exact end1 rfl rfl (by kernel_rfl) .f (hQ _ _ rfl rfl)
      rw [if_neg hkz] at hF
      have hn17:=hn16 (by omega)
      haveI : Kn ((gt s.tms k.toNat).name.length ≤ 1000000):=⟨by omega⟩
      have hw:=writeP_ok (e:=⟨0,0,0,6,0,0,(gt s.tms k.toNat).name,[],[]⟩) ho (fitv_mk (by omega) (by simp) fit_nil)
      have hwu:=writeP_unf (p:=⟨s,ver,now,out⟩) (nm:=(gt s.tms k.toNat).name)
      have hu2:=hu1 s.tms
      repeat' (first|(with_reducible first|refine Wx.h ?_|refine We.h fun K hK=>?_|refine Wd.h fun K M hK hM=>?_|(refine hK _ _ _ _ ?_;clear hK K;try clear hM M)|(refine hM ?_;clear hM M;try clear hK K)|refine Wb.h fun K hK=>?_|(refine hK _ ?_;clear hK K)|(refine wT ?_ ?_;· assumption)|(refine wF ?_ ?_;· assumption))|((with_reducible refine kQ ?_ ?_);kernel_rfl)|((with_reducible refine k1 ?_ ?_);rfl)|((with_reducible refine k0 ?_ ?_);rfl)|((with_reducible apply kB)<;>first|rfl|intro h)|((with_reducible refine kM ?_ ?_);rfl)|(with_reducible refine Wq.h ?_ ?_)<;>intro h<;>try (exfalso;omega)|(with_reducible refine Wu.h ?_ ?_)<;>intro h<;>try simp only [h]|((fail_if_success with_reducible refine Wz.h ?_);first|simp (disch:=omega) only [↓LD,LA,loadA_rf,seval,LSt,pnB,pnD,load_fTm,len_fTm,at0_fTm,at1_fTm,Tm.cs,-loadA_rf,List.map_cons,List.map_nil]|((with_reducible refine And.intro ?_ ?_);omega)|simp only [D.int,D.bool]))
      · have hz : (writeP ⟨s,ver,now,out⟩ ⟨0,0,0,6,0,0,(gt s.tms k.toNat).name,[],[]⟩).1 = 0:=by assumption
        have hwu:=hwu hz
        dsimp only at hwu hn1
        rw [if_neg (fun hh=>hh hz)] at hF
        refine Next.mk ((writeP ⟨s,ver,now,out⟩ ⟨0,0,0,6,0,0,(gt s.tms k.toNat).name,[],[]⟩).2,m + 1) (by kernel_rfl) ⟨hw,by dsimp only;omega,by dsimp only;omega,?_⟩ (by dsimp only;omega)
        dsimp only
        rw [hF]
        exact lateT_fuel hwu (Nat.lt_succ_self _)
      · have hz : (writeP ⟨s,ver,now,out⟩ ⟨0,0,0,6,0,0,(gt s.tms k.toNat).name,[],[]⟩).1 ≠ 0:=by assumption
        rw [if_pos hz] at hF
        rw [hF] at hQ
        exact end1 rfl rfl (by kernel_rfl) .f (hQ _ _ rfl rfl)
instance {s : S12} {ver now : Int} {out : List Ev} {H : List Row} {K : D → List Row → Prop} {ds : List Nd} [ho : Kn (Ok12 s)] [hl : Kn (out.length ≤ 1000000)] [k1 : Kn (Fit ds)] :
    Wa (callW Tryz.prog (.fn 60 []) [.pt 0 0,.f (fG ds)] (.box 78 [.f (.v (.int .i64 s.id)),.f (.v (.int .i64 s.ver)),.f (.v (.int .i64 s.time)),.f (.v (.int .i64 s.closed)),.f (.v (.bool s.cancel)),.f (fG s.defs),.f (fNn s.nodes),.f (fTm s.tms),.f (fSg s.sgs),.f (.v (.int .i64 ver)),.f (.v (.int .i64 now)),.f (fEv out)] :: H) K) (K (.f (.v (.int .i64 (startP ⟨s,ver,now,out⟩ ds).1))) (pnB (startP ⟨s,ver,now,out⟩ ds).2 :: H)):=⟨fun h =>
  callW_own (c_pen_Start ⟨s,ver,now,out⟩ ds ho.h hl.h k1.h) rfl rfl (fun _=>rfl) (fun _=>rfl) (fun _=>rfl) (fun _=>rfl) h⟩
instance {s : S12} {ver now : Int} {out : List Ev} {H : List Row} {K : D → List Row → Prop}  [ho : Kn (Ok12 s)] [hl : Kn (out.length ≤ 1000000)] :
    Wa (callW Tryz.prog (.fn 62 []) [.pt 0 0] (.box 78 [.f (.v (.int .i64 s.id)),.f (.v (.int .i64 s.ver)),.f (.v (.int .i64 s.time)),.f (.v (.int .i64 s.closed)),.f (.v (.bool s.cancel)),.f (fG s.defs),.f (fNn s.nodes),.f (fTm s.tms),.f (fSg s.sgs),.f (.v (.int .i64 ver)),.f (.v (.int .i64 now)),.f (fEv out)] :: H) K) (K (.tp [.f (.v (.int .i64 (beginP ⟨s,ver,now,out⟩).1.1)),.f (.v (.int .i64 (beginP ⟨s,ver,now,out⟩).1.2.1)),.f (.v (.int .i64 (beginP ⟨s,ver,now,out⟩).1.2.2))]) (pnB (beginP ⟨s,ver,now,out⟩).2 :: H)):=⟨fun h =>
  callW_own (c_pen_Begin ⟨s,ver,now,out⟩ ho.h hl.h) rfl rfl (fun _=>rfl) (fun _=>rfl) (fun _=>rfl) (fun _=>rfl) h⟩
instance {s : S12} {ver now : Int} {out : List Ev} {H : List Row} {K : Bool → D → List Row → Prop} {i t : Int} {ok : Bool} {d : Bs} [ho : Kn (Ok12 s)] [hl : Kn (out.length ≤ 1000000)] [k1 : Kn (d.length ≤ 1000000)] :
    Wa (callDr Tryz.prog (.fn 63 []) [.pt 0 0,.f (.v (.int .i64 i)),.f (.v (.int .i64 t)),.f (.v (.bool ok)),.f (fY d)] (.box 78 [.f (.v (.int .i64 s.id)),.f (.v (.int .i64 s.ver)),.f (.v (.int .i64 s.time)),.f (.v (.int .i64 s.closed)),.f (.v (.bool s.cancel)),.f (fG s.defs),.f (fNn s.nodes),.f (fTm s.tms),.f (fSg s.sgs),.f (.v (.int .i64 ver)),.f (.v (.int .i64 now)),.f (fEv out)] :: H) K) (K true (.f (.v (.int .i64 (finishP ⟨s,ver,now,out⟩ i t ok d).1))) (pnB (finishP ⟨s,ver,now,out⟩ i t ok d).2 :: H)):=⟨fun h =>
  callDr_own (c_pen_Finish ⟨s,ver,now,out⟩ i t ok d ho.h hl.h k1.h) rfl rfl (fun _=>rfl) (fun _=>rfl) (fun _=>rfl) (fun _=>rfl) h⟩
instance {s : S12} {ver now : Int} {out : List Ev} {H : List Row} {K : Bool → D → List Row → Prop} {nm : Bs} {t : Int} [ho : Kn (Ok12 s)] [hl : Kn (out.length ≤ 1000000)] [k1 : Kn (nm.length ≤ 1000000)] :
    Wa (callDr Tryz.prog (.fn 65 []) [.pt 0 0,.f (.v (.string (BB nm))),.f (.v (.int .i64 t))] (.box 78 [.f (.v (.int .i64 s.id)),.f (.v (.int .i64 s.ver)),.f (.v (.int .i64 s.time)),.f (.v (.int .i64 s.closed)),.f (.v (.bool s.cancel)),.f (fG s.defs),.f (fNn s.nodes),.f (fTm s.tms),.f (fSg s.sgs),.f (.v (.int .i64 ver)),.f (.v (.int .i64 now)),.f (fEv out)] :: H) K) (K true (.f (.v (.int .i64 (armP ⟨s,ver,now,out⟩ nm t).1))) (pnB (armP ⟨s,ver,now,out⟩ nm t).2 :: H)):=⟨fun h =>
  callDr_own (c_pen_Arm ⟨s,ver,now,out⟩ nm t ho.h hl.h k1.h) rfl rfl (fun _=>rfl) (fun _=>rfl) (fun _=>rfl) (fun _=>rfl) h⟩
instance {s : S12} {ver now : Int} {out : List Ev} {H : List Row} {K : Bool → D → List Row → Prop} {nm d : Bs} [ho : Kn (Ok12 s)] [hl : Kn (out.length ≤ 1000000)] [k1 : Kn (nm.length ≤ 1000000)] [k2 : Kn (d.length ≤ 1000000)] :
    Wa (callDr Tryz.prog (.fn 67 []) [.pt 0 0,.f (.v (.string (BB nm))),.f (fY d)] (.box 78 [.f (.v (.int .i64 s.id)),.f (.v (.int .i64 s.ver)),.f (.v (.int .i64 s.time)),.f (.v (.int .i64 s.closed)),.f (.v (.bool s.cancel)),.f (fG s.defs),.f (fNn s.nodes),.f (fTm s.tms),.f (fSg s.sgs),.f (.v (.int .i64 ver)),.f (.v (.int .i64 now)),.f (fEv out)] :: H) K) (K true (.tp [.f (.v (.bool (signalP ⟨s,ver,now,out⟩ nm d).1.1)),.f (.v (.int .i64 (signalP ⟨s,ver,now,out⟩ nm d).1.2))]) (pnB (signalP ⟨s,ver,now,out⟩ nm d).2 :: H)):=⟨fun h =>
  callDr_own (c_pen_Signal ⟨s,ver,now,out⟩ nm d ho.h hl.h k1.h k2.h) rfl rfl (fun _=>rfl) (fun _=>rfl) (fun _=>rfl) (fun _=>rfl) h⟩
instance {s : S12} {ver now : Int} {out : List Ev} {H : List Row} {K : D → List Row → Prop}  [ho : Kn (Ok12 s)] [hl : Kn (out.length ≤ 1000000)] :
    Wa (callW Tryz.prog (.fn 69 []) [.pt 0 0] (.box 78 [.f (.v (.int .i64 s.id)),.f (.v (.int .i64 s.ver)),.f (.v (.int .i64 s.time)),.f (.v (.int .i64 s.closed)),.f (.v (.bool s.cancel)),.f (fG s.defs),.f (fNn s.nodes),.f (fTm s.tms),.f (fSg s.sgs),.f (.v (.int .i64 ver)),.f (.v (.int .i64 now)),.f (fEv out)] :: H) K) (K (.f (.v (.int .i64 (cancelP ⟨s,ver,now,out⟩).1))) (pnB (cancelP ⟨s,ver,now,out⟩).2 :: H)):=⟨fun h =>
  callW_own (c_pen_Cancel ⟨s,ver,now,out⟩ ho.h hl.h) rfl rfl (fun _=>rfl) (fun _=>rfl) (fun _=>rfl) (fun _=>rfl) h⟩
instance {s : S12} {ver now : Int} {out : List Ev} {H : List Row} {K : D → List Row → Prop}  [ho : Kn (Ok12 s)] [hl : Kn (out.length ≤ 1000000)] :
    Wa (callW Tryz.prog (.fn 70 []) [.pt 0 0] (.box 78 [.f (.v (.int .i64 s.id)),.f (.v (.int .i64 s.ver)),.f (.v (.int .i64 s.time)),.f (.v (.int .i64 s.closed)),.f (.v (.bool s.cancel)),.f (fG s.defs),.f (fNn s.nodes),.f (fTm s.tms),.f (fSg s.sgs),.f (.v (.int .i64 ver)),.f (.v (.int .i64 now)),.f (fEv out)] :: H) K) (K (.f (.v (.int .i64 (termP ⟨s,ver,now,out⟩).1))) (pnB (termP ⟨s,ver,now,out⟩).2 :: H)):=⟨fun h =>
  callW_own (c_pen_Terminate ⟨s,ver,now,out⟩ ho.h hl.h) rfl rfl (fun _=>rfl) (fun _=>rfl) (fun _=>rfl) (fun _=>rfl) h⟩
instance {s : S12} {ver now : Int} {out : List Ev} {H : List Row} {K : D → List Row → Prop} [ho : Kn (Ok12 s)] [hl : Kn (out.length ≤ 1000000)] [k1 : Kn (∃ b,PnOk b ⟨s,ver,now,out⟩)] :
    Wa (callW Tryz.prog (.fn 68 []) [.pt 0 0] (.box 78 [.f (.v (.int .i64 s.id)),.f (.v (.int .i64 s.ver)),.f (.v (.int .i64 s.time)),.f (.v (.int .i64 s.closed)),.f (.v (.bool s.cancel)),.f (fG s.defs),.f (fNn s.nodes),.f (fTm s.tms),.f (fSg s.sgs),.f (.v (.int .i64 ver)),.f (.v (.int .i64 now)),.f (fEv out)] :: H) K) (K (.f (.v (.int .i64 (lateP ⟨s,ver,now,out⟩).1))) (pnB (lateP ⟨s,ver,now,out⟩).2 :: H)):=⟨fun h =>
  callW_own (k1.h.elim fun b hb=>c_pen_Late b ⟨s,ver,now,out⟩ hb) rfl rfl (fun _=>rfl) (fun _=>rfl) (fun _=>rfl) (fun _=>rfl) h⟩
set_option maxHeartbeats 4000000
def SgN (e : Ev) : Prop:=e.ty = 7 → ∃ a b,e.name = nameL a ++ nameL b
def PnS (p : Pn) : Prop:=∀ e ∈ p.out,SgN e
theorem writeP_s {p : Pn} {e : Ev} (h : PnS p) (he : SgN e) : PnS (writeP p e).2:=by
  have hn : SgN (nextP p e):=he
  rcases writeP_is p e with ⟨_,h2⟩|⟨_,_,h2,_,h3⟩|⟨_,_,h2,_,f,hf,h3,h4⟩
  · rw [h2];exact h
  · rw [h3]
    intro x hx
    rcases List.mem_append.1 hx with hx|hx
    · exact h x hx
    · obtain rfl:=List.mem_singleton.1 hx;exact hn
  · rw [h4]
    intro x hx
    rcases List.mem_append.1 hx with hx|hx
    · exact h x hx
    · rcases List.mem_cons.1 hx with rfl|hx
      · exact hn
      · obtain rfl:=List.mem_singleton.1 hx
        intro ht
        have hk:=endingL_in (applyR p.s (nextP p e)).2
        have hft : x.ty = endingL (applyR p.s (nextP p e)).2:=by rw [hf];rfl
        omega
theorem sgN_of {e : Ev} (h : e.ty ≠ 7) : SgN e:=fun hh=>absurd hh h
structure PnT (b : S12) (p : Pn) : Prop where
  ok : PnOk b p
  sg : PnS p
theorem startP_t {b : S12} {p : Pn} {ds : List Nd} (h : PnT b p) (hd : Fit ds) : PnT b (startP p ds).2:=by
  refine ⟨startP_ok h.ok hd,?_⟩
  unfold startP
  repeat' split
  all_goals first|exact h.sg|exact writeP_s h.sg (sgN_of (by simp))
theorem beginP_t {b : S12} {p : Pn} (h : PnT b p) : PnT b (beginP p).2:=by
  refine ⟨beginP_ok h.ok,?_⟩
  unfold beginP
  repeat' split
  all_goals first|exact h.sg|exact writeP_s h.sg (sgN_of (by simp))
theorem finishP_t {b : S12} {p : Pn} {i t : Int} {ok : Bool} {d : Bs} (h : PnT b p) (hd : d.length ≤ 1000000) : PnT b (finishP p i t ok d).2:=by
  refine ⟨finishP_ok h.ok hd,?_⟩
  unfold finishP
  repeat' split
  all_goals first|exact h.sg|exact writeP_s h.sg (sgN_of (by simp))
theorem armP_t {b : S12} {p : Pn} {nm : Bs} {t : Int} (h : PnT b p) (hn : nm.length ≤ 1000000) : PnT b (armP p nm t).2:=by
  refine ⟨armP_ok h.ok hn,?_⟩
  unfold armP
  repeat' split
  all_goals first|exact h.sg|exact writeP_s h.sg (sgN_of (by simp))
theorem signalP_t {b : S12} {p : Pn} {x y : Int} {d : Bs} (h : PnT b p) (hn : (nameL x ++ nameL y).length ≤ 1000000) (hd : d.length ≤ 1000000) : PnT b (signalP p (nameL x ++ nameL y) d).2:=by
  refine ⟨signalP_ok h.ok hn hd,?_⟩
  unfold signalP
  repeat' split
  all_goals first|exact h.sg|exact writeP_s h.sg (fun _=>⟨x,y,rfl⟩)
theorem cancelP_t {b : S12} {p : Pn} (h : PnT b p) : PnT b (cancelP p).2:=by
  refine ⟨cancelP_ok h.ok,?_⟩
  unfold cancelP
  repeat' split
  all_goals first|exact h.sg|exact writeP_s h.sg (sgN_of (by simp))
theorem termP_t {b : S12} {p : Pn} (h : PnT b p) : PnT b (termP p).2:=by
  refine ⟨termP_ok h.ok,?_⟩
  unfold termP
  repeat' split
  all_goals first|exact h.sg|exact writeP_s h.sg (sgN_of (by simp))
theorem lateN_s {now : Int} : ∀ {k i : Nat} {p : Pn} {n : Int},PnS p → PnS (lateN now k i p n).2.1
  | 0,_,_,_,h=>h
  | k + 1,i,p,n,h=>by
    rw [lateN]
    have hw:=writeP_s (e:=⟨0,0,0,4,i,(gt p.s.nodes i).tr,[],[],[]⟩) h (sgN_of (by simp))
    split
    · exact h
    · split
      · exact lateN_s h
      · split
        · exact lateN_s h
        · split
          · exact hw
          · exact lateN_s hw
theorem lateT_s {now : Int} : ∀ {f : Nat} {p : Pn} {n : Int},PnS p → PnS (lateT now f p n).2
  | 0,_,_,h=>h
  | f + 1,p,n,h=>by
    rw [lateT]
    split
    · exact h
    · split
      · exact h
      · have hw:=writeP_s (e:=⟨0,0,0,6,0,0,(gt p.s.tms (pickF now p.s.tms 0 (-1) p.s.tms).toNat).name,[],[]⟩) h (sgN_of (by simp))
        split
        · exact hw
        · exact lateT_s hw
theorem lateP_t {b : S12} {p : Pn} (h : PnT b p) : PnT b (lateP p).2:=by
  refine ⟨lateP_ok h.ok,?_⟩
  unfold lateP
  split
  · exact lateN_s h.sg
  · exact lateT_s (lateN_s h.sg)
theorem bb_app {a b : Bs} : BB a ++ BB b = BB (a ++ b):=by
  apply ByteArray.ext
  rw [ByteArray.data_append]
  simp [BB]
set_option maxRecDepth 100000 in
theorem c_play_step (b : S12) (p : Pn) (x : Rw) (l : List Rd) (hp : PnT b p) : Con Tryz.prog 35 [.pt 0 0,rwD x,.f (fR l)] [pnB p] fun r H'=>r = .tp [] ∧ ∃ p',H' = [pnB p'] ∧ PnT b p':=by
  obtain ⟨s,ver,now,out⟩:=p
  suffices hh : ∀ Q : D → List Row → Prop,(∀ p',PnT b p' → Q (.tp []) [pnB p']) → Con Tryz.prog 35 [.pt 0 0,rwD x,.f (fR l)] [pnB ⟨s,ver,now,out⟩] Q from hh _ fun p' h=>⟨rfl,p',rfl,h⟩
  intro Q hQ
  have ho : Ok12 s:=hp.ok.ok
  have hl : out.length ≤ 200:=hp.ok.len
  haveI : Kn (Ok12 s):=⟨ho⟩
  haveI : Kn (Wk12 s):=⟨ho.wk⟩
  haveI : Kn (out.length ≤ 1000000):=⟨by omega⟩
  refine Con.walk good fn_play_step (by simp) ?_
  unfold s_play_step
  simp only [argsE,pnB,pnD,rwD]
  have hf1:=fewL_len (b:=x.data) (n:=40) (by omega)
  have hf2:=fewL_len (b:=x.data) (n:=0) (by omega)
  haveI : Kn ((fewL x.data 40).length ≤ 1000000):=⟨by omega⟩
  haveI : Kn ((fewL x.data 0).length ≤ 1000000):=⟨by omega⟩
  haveI : Kn ((nameL x.a).length ≤ 1000000):=⟨by have:=nameL_len x.a;omega⟩
  haveI : Kn (∃ b,PnOk b ⟨s,ver,now,out⟩):=⟨b,hp.ok⟩
  by_cases hz : s.id = 0
  · repeat' (first|(with_reducible first|refine Wx.h ?_|refine Wb.h fun K hK=>?_|(refine hK _ ?_;clear hK K)|(refine wT ?_ ?_;· assumption)|(refine wF ?_ ?_;· assumption))|((with_reducible refine kQ ?_ ?_);kernel_rfl)|((with_reducible refine k1 ?_ ?_);rfl)|((with_reducible refine k0 ?_ ?_);rfl)|((with_reducible apply kB)<;>first|rfl|intro h)|((with_reducible refine kM ?_ ?_);rfl)|(with_reducible refine Wq.h ?_ ?_)<;>intro h<;>try (exfalso;omega)|(with_reducible refine Wu.h ?_ ?_)<;>intro h<;>try simp only [h]|((fail_if_success with_reducible refine Wz.h ?_);first|simp (disch:=omega) only [↓LD,LA,loadA_rf,seval]|((with_reducible refine And.intro ?_ ?_);omega)|simp only [D.int,D.bool]))
    refine callW_emb (c_hand_Defs7 l) [] (by kernel_rfl) rfl rfl ?_
    rintro _ _ ⟨ds,rfl,hd1,hd2,hd3,rfl⟩
    haveI : Kn (Fit ds):=⟨hd1.fit hd3⟩
    simp (disch:=omega) only [↓LD,LA,loadA_rf,seval,ren,List.getElem?_nil]
    repeat' (first|(with_reducible first|refine Wx.h ?_|refine Wb.h fun K hK=>?_|(refine hK _ ?_;clear hK K)|(refine wT ?_ ?_;· assumption)|(refine wF ?_ ?_;· assumption))|((with_reducible refine kQ ?_ ?_);kernel_rfl)|((with_reducible refine k1 ?_ ?_);rfl)|((with_reducible refine k0 ?_ ?_);rfl)|((with_reducible apply kB)<;>first|rfl|intro h)|((with_reducible refine kM ?_ ?_);rfl)|(with_reducible refine Wq.h ?_ ?_)<;>intro h<;>try (exfalso;omega)|(with_reducible refine Wu.h ?_ ?_)<;>intro h<;>try simp only [h]|((fail_if_success with_reducible refine Wz.h ?_);first|simp (disch:=omega) only [↓LD,LA,loadA_rf,seval]|((with_reducible refine And.intro ?_ ?_);omega)|simp only [D.int,D.bool]))
    exact RetS.still (ds:=[]) (by kernel_rfl) (by kernel_rfl) (.tps .nil) (hQ _ (startP_t hp (hd1.fit hd3)))
  haveI : Kn ((nameL x.a ++ nameL x.b).length ≤ 1000000):=⟨by have:=nameL_len x.a;have:=nameL_len x.b;rw [List.length_append];omega⟩
  have hsz : (BB (nameL x.a)).size + (BB (nameL x.b)).size ≤ 1000:=by have:=nameL_len x.a;have:=nameL_len x.b;rw [bb_len,bb_len];omega
  have hnl:=ho.wk.fit.fit.nodes
  have hla:=nameL_len x.a
  have hlb:=nameL_len x.b
  have hpk:=pick_in (x:=x.b) (n:=9) (by omega)
  repeat' (first|(with_reducible first|refine Wx.h ?_|refine We.h fun K hK=>?_|refine Wd.h fun K M hK hM=>?_|(refine hK _ _ _ _ ?_;clear hK K;try clear hM M)|(refine hM ?_;clear hM M;try clear hK K)|refine Wb.h fun K hK=>?_|(refine hK _ ?_;clear hK K)|(refine wT ?_ ?_;· assumption)|(refine wF ?_ ?_;· assumption))|((with_reducible refine kQ ?_ ?_);kernel_rfl)|((with_reducible refine k1 ?_ ?_);rfl)|((with_reducible refine k0 ?_ ?_);rfl)|((with_reducible apply kB)<;>first|rfl|intro h)|((with_reducible refine kM ?_ ?_);rfl)|(with_reducible refine Wq.h ?_ ?_)<;>intro h<;>try (exfalso;omega)|(with_reducible refine Wu.h ?_ ?_)<;>intro h<;>try simp only [h]|((fail_if_success with_reducible refine Wz.h ?_);first|simp (disch:=omega) only [↓LD,LA,loadA_rf,seval,bb_app]|((with_reducible refine And.intro ?_ ?_);omega)|simp only [D.int,D.bool]))
  all_goals first
    | exact RetS.still (ds:=[]) (by kernel_rfl) (by kernel_rfl) (.tps .nil) (hQ _ (beginP_t hp))
    | exact RetS.still (ds:=[]) (by kernel_rfl) (by kernel_rfl) (.tps .nil) (hQ _ (armP_t hp (by have:=nameL_len x.a;omega)))
    | exact RetS.still (ds:=[]) (by kernel_rfl) (by kernel_rfl) (.tps .nil) (hQ _ (signalP_t hp (by have:=nameL_len x.a;have:=nameL_len x.b;rw [List.length_append];omega) (by omega)))
    | exact RetS.still (ds:=[]) (by kernel_rfl) (by kernel_rfl) (.tps .nil) (hQ _ (lateP_t hp))
    | exact RetS.still (ds:=[]) (by kernel_rfl) (by kernel_rfl) (.tps .nil) (hQ _ (cancelP_t hp))
    | exact RetS.still (ds:=[]) (by kernel_rfl) (by kernel_rfl) (.tps .nil) (hQ _ (termP_t hp))
    | exact RetS.still (ds:=[]) (by kernel_rfl) (by kernel_rfl) (.tps .nil) (hQ _ hp)
    | skip
  all_goals
    refine HS.loopG [0,4,6] (fun i : Nat=>⟨frm 124 [(0,.pt 0 0),(4,.pt 1 0),(6,D.int i)],[pnB ⟨s,ver,now,out⟩,.box 72 [D.int x.what,D.int x.a,D.int x.b,D.int x.c,D.int x.v,.f (fY x.data)]],[]⟩)
      (fun i=>i ≤ s.nodes.length) (fun i=>s.nodes.length - i) 0 (by kernel_rfl) (Nat.zero_le _) ?_
    rintro i hi
    repeat' (first|(with_reducible first|refine Wx.h ?_|refine We.h fun K hK=>?_|refine Wd.h fun K M hK hM=>?_|(refine hK _ _ _ _ ?_;clear hK K;try clear hM M)|(refine hM ?_;clear hM M;try clear hK K)|refine Wb.h fun K hK=>?_|(refine hK _ ?_;clear hK K)|(refine wT ?_ ?_;· assumption)|(refine wF ?_ ?_;· assumption))|((with_reducible refine kQ ?_ ?_);kernel_rfl)|((with_reducible refine k1 ?_ ?_);rfl)|((with_reducible refine k0 ?_ ?_);rfl)|((with_reducible apply kB)<;>first|rfl|intro h)|((with_reducible refine kM ?_ ?_);rfl)|(with_reducible refine Wq.h ?_ ?_)<;>intro h<;>try (exfalso;omega)|(with_reducible refine Wu.h ?_ ?_)<;>intro h<;>try simp only [h]|((fail_if_success with_reducible refine Wz.h ?_);first|simp (disch:=omega) only [↓LD,LA,loadA_rf,seval,LSt,pnB,pnD,at0_fNn,at1_fNn,len_fNn,Nn.cs]|((with_reducible refine And.intro ?_ ?_);omega)|simp only [D.int,D.bool]))
    all_goals first
      | exact RetS.still (ds:=[]) (by kernel_rfl) (by kernel_rfl) (.tps .nil) (hQ _ (finishP_t hp (by omega)))
      | exact RetS.still (ds:=[]) (by kernel_rfl) (by kernel_rfl) (.tps .nil) (hQ _ (beginP_t hp))
      | exact Next.mk (i + 1) (by kernel_rfl) (by omega) (by omega)
set_option maxHeartbeats 4000000
theorem take_fEv {g : List Ev} {k : Nat} (hk : k < g.length) : ((g.flatMap Ev.cs).drop (k * 9)).take 9 = Ev.cs (gt g k):=flat_take Ev.cs_len hk
def rEv (l : List Ev) : Row:=.data 42 (l.flatMap Ev.cs)
set_option maxRecDepth 100000 in
theorem c_ref_FoldL (l : List Ev) (hl : l.length ≤ 1000000) (hf : ∀ e ∈ l,FitV e) : Con Tryz.prog 5 [.sl 0 0 l.length] [rEv l] fun r H'=>r = .tp [stD (foldR s0 l).2,D.int (foldR s0 l).1] ∧ H' = [rEv l]:=by
  refine Con.walk good fn_ref_Fold (by simp) ?_
  unfold s_ref_Fold
  simp only [argsE]
  repeat' (first|(with_reducible first|refine Wx.h ?_|refine Wb.h fun K hK=>?_|(refine hK _ ?_;clear hK K)|(refine wT ?_ ?_;· assumption)|(refine wF ?_ ?_;· assumption))|((with_reducible refine kQ ?_ ?_);kernel_rfl)|((with_reducible refine k1 ?_ ?_);rfl)|((with_reducible refine k0 ?_ ?_);rfl)|((with_reducible apply kB)<;>first|rfl|intro h)|((with_reducible refine kM ?_ ?_);rfl)|(with_reducible refine Wq.h ?_ ?_)<;>intro h<;>try (exfalso;omega)|(with_reducible refine Wu.h ?_ ?_)<;>intro h<;>try simp only [h]|((fail_if_success with_reducible refine Wz.h ?_);first|simp (disch:=omega) only [↓LD,LA,loadA_rf,seval,rEv]|((with_reducible refine And.intro ?_ ?_);omega)|simp only [D.int,D.bool]))
  refine HS.view (View.bcell 2 5 (.f (.s [] 0)) rfl rfl .ns) ?_
  refine HS.view (View.bcell 2 6 (.f (.s [] 0)) rfl rfl .ns) ?_
  refine HS.view (View.bcell 2 7 (.f (.s [] 0)) rfl rfl .ns) ?_
  refine HS.view (View.bcell 2 8 (.f (.s [] 0)) rfl rfl .ns) ?_
  refine HS.loopG [0,2,4,5] (fun x : Nat × S12=>⟨frm 27 [(0,.sl 0 0 l.length),(2,.pt 1 0),(4,.pt 2 0),(5,D.int x.1)],[rEv l,.box 29 [jI,jI,jI,jI,jF,jN,jN,jN,jN],stF x.2],[]⟩)
    (fun x=>x.1 ≤ l.length ∧ Ok12 x.2 ∧ foldR s0 l = foldR x.2 (l.drop x.1)) (fun x=>l.length - x.1) (0,s0) (by kernel_rfl) ⟨Nat.zero_le _,ok12_0,rfl⟩ ?_
  rintro ⟨i,s⟩ ⟨hi,ho,hF⟩
  dsimp only at hi ho hF
  by_cases hil : i < l.length
  · rw [drop_gt hil,foldR] at hF
    have hv:=hf _ (gt_mem hil)
    haveI : Kn (Wk12 s):=⟨ho.wk⟩
    haveI : Kn (FitV (gt l i)):=⟨hv⟩
    repeat' (first|(with_reducible first|refine Wx.h ?_|refine We.h fun K hK=>?_|refine Wd.h fun K M hK hM=>?_|(refine hK _ _ _ _ ?_;clear hK K;try clear hM M)|(refine hM ?_;clear hM M;try clear hK K)|refine Wb.h fun K hK=>?_|(refine hK _ ?_;clear hK K)|(refine wT ?_ ?_;· assumption)|(refine wF ?_ ?_;· assumption))|((with_reducible refine kQ ?_ ?_);kernel_rfl)|((with_reducible refine k1 ?_ ?_);rfl)|((with_reducible refine k0 ?_ ?_);rfl)|((with_reducible apply kB)<;>first|rfl|intro h)|((with_reducible refine kM ?_ ?_);rfl)|(with_reducible refine Wq.h ?_ ?_)<;>intro h<;>try (exfalso;omega)|(with_reducible refine Wu.h ?_ ?_)<;>intro h<;>try simp only [h]|((fail_if_success with_reducible refine Wz.h ?_);first|simp (disch:=omega) only [↓LD,LA,loadA_rf,seval,rEv,take_fEv,len_fEv,Ev.cs,stF,List.map_cons,List.map_nil]|((with_reducible refine And.intro ?_ ?_);omega)|simp only [D.int,D.bool]))
    · have hz : (applyR s (gt l i)).1 = 0:=by assumption
      rw [if_pos hz] at hF
      have ho2:=ok12_apply ho hv.2.2.2 hz
      exact Next.mk (i + 1,(applyR s (gt l i)).2) (by kernel_rfl) ⟨by dsimp only;omega,ho2,hF⟩ (by dsimp only;omega)
    · rw [if_neg (by assumption)] at hF
      rw [hF]
      exact RetS.still (ds:=[.ag [jI,jI,jI,jI,jF,jN,jN,jN,jN],D.int (applyR s (gt l i)).1]) (by kernel_rfl) (by kernel_rfl) (.tps (.cons (.ags (.cons .f (.cons .f (.cons .f (.cons .f (.cons .f (.cons .nil (.cons .nil (.cons .nil (.cons .nil .nil)))))))))) (.cons .f .nil))) ⟨rfl,rfl⟩
  · repeat' (first|(with_reducible first|refine Wx.h ?_|refine Wb.h fun K hK=>?_|(refine hK _ ?_;clear hK K)|(refine wT ?_ ?_;· assumption)|(refine wF ?_ ?_;· assumption))|((with_reducible refine kQ ?_ ?_);kernel_rfl)|((with_reducible refine k1 ?_ ?_);rfl)|((with_reducible refine k0 ?_ ?_);rfl)|((with_reducible apply kB)<;>first|rfl|intro h)|((with_reducible refine kM ?_ ?_);rfl)|(with_reducible refine Wq.h ?_ ?_)<;>intro h<;>try (exfalso;omega)|(with_reducible refine Wu.h ?_ ?_)<;>intro h<;>try simp only [h]|((fail_if_success with_reducible refine Wz.h ?_);first|simp (disch:=omega) only [↓LD,LA,loadA_rf,seval,rEv,stF]|((with_reducible refine And.intro ?_ ?_);omega)|simp only [D.int,D.bool]))
    rw [List.drop_of_length_le (by omega),foldR] at hF
    rw [hF]
    exact RetS.still (ds:=[stD s,D.int 0]) (by kernel_rfl) (by kernel_rfl) (.tps (.cons vws_stD (.cons .f .nil))) ⟨rfl,rfl⟩
theorem c_pen_NewL (l : List Ev) (ver now : Int) (hl : l.length ≤ 1000000) (hf : ∀ e ∈ l,FitV e) : Con Tryz.prog 34 [.sl 0 0 l.length,D.int ver,D.int now] [rEv l] fun r H' =>
    (newE l ver now ≠ 0 → r = .tp [.f (.v (.pointer none)),D.int (newE l ver now)] ∧ H' = [rEv l]) ∧ (newE l ver now = 0 → r = .tp [.pt 1 0,D.int 0] ∧ H' = [rEv l,pnB ⟨(foldR s0 l).2,ver,now,[]⟩]):=by
  suffices hh : ∀ Q : D → List Row → Prop,(∀ r H',((newE l ver now ≠ 0 → r = .tp [.f (.v (.pointer none)),D.int (newE l ver now)] ∧ H' = [rEv l]) ∧ (newE l ver now = 0 → r = .tp [.pt 1 0,D.int 0] ∧ H' = [rEv l,pnB ⟨(foldR s0 l).2,ver,now,[]⟩])) → Q r H') → Con Tryz.prog 34 [.sl 0 0 l.length,D.int ver,D.int now] [rEv l] Q from hh _ fun _ _ h=>h
  intro Q hQ
  haveI : Kn (l.length ≤ 1000000):=⟨hl⟩
  haveI : Kn (∀ e ∈ l,FitV e):=⟨hf⟩
  have hE : newE l ver now = newE l ver now:=rfl
  conv at hE=>rhs;unfold newE
  generalize newE l ver now = E at hQ hE
  generalize hF : foldR s0 l = p at hQ hE
  obtain ⟨v,s⟩:=p
  dsimp only at hE hQ
  refine Con.walk good fn_pen_New (by simp) ?_
  unfold s_pen_New
  simp only [argsE]
  repeat' (first|(with_reducible first|refine Wa.h ?_|refine Ws.h ?_|refine Wb.h fun K hK=>?_|(refine hK _ ?_;clear hK K)|(refine wT ?_ ?_;· assumption)|(refine wF ?_ ?_;· assumption))|((with_reducible refine kQ ?_ ?_);kernel_rfl)|((with_reducible refine k1 ?_ ?_);rfl)|((with_reducible refine k0 ?_ ?_);rfl)|((with_reducible apply kB)<;>first|rfl|intro h)|((with_reducible refine kM ?_ ?_);rfl)|(with_reducible refine Wq.h ?_ ?_)<;>intro h<;>try (exfalso;omega)|(with_reducible refine Wu.h ?_ ?_)<;>intro h<;>try simp only [h]|((fail_if_success with_reducible refine Wz.h ?_);first|simp (disch:=omega) only [↓LD,LA,loadA_rf,seval,rEv]|((with_reducible refine And.intro ?_ ?_);omega)|simp only [D.int,D.bool]))
  refine callW_emb (c_ref_FoldL l hl hf) [0] (by kernel_rfl) rfl rfl ?_
  rintro _ _ ⟨rfl,rfl⟩
  simp (disch:=omega) only [↓LD,LA,loadA_rf,seval,ren,List.getElem?_nil,rEv]
  rw [hF]
  repeat' (first|(with_reducible first|refine Wa.h ?_|refine Ws.h ?_|refine Wb.h fun K hK=>?_|(refine hK _ ?_;clear hK K)|(refine wT ?_ ?_;· assumption)|(refine wF ?_ ?_;· assumption))|((with_reducible refine kQ ?_ ?_);kernel_rfl)|((with_reducible refine k1 ?_ ?_);rfl)|((with_reducible refine k0 ?_ ?_);rfl)|((with_reducible apply kB)<;>first|rfl|intro h)|((with_reducible refine kM ?_ ?_);rfl)|(with_reducible refine Wq.h ?_ ?_)<;>intro h<;>try (exfalso;omega)|(with_reducible refine Wu.h ?_ ?_)<;>intro h<;>try simp only [h]|((fail_if_success with_reducible refine Wz.h ?_);first|simp (disch:=omega) only [↓LD,LA,loadA_rf,seval,rEv,stD]|((with_reducible refine And.intro ?_ ?_);omega)|simp only [D.int,D.bool]))
  · have hv : E = 1:=by rw [hE,if_neg (fun hh=>hh (show v = 0 by assumption)),if_pos (by assumption)]
    repeat' (first|(with_reducible first|refine Wx.h ?_|refine Wb.h fun K hK=>?_|(refine hK _ ?_;clear hK K)|(refine wT ?_ ?_;· assumption)|(refine wF ?_ ?_;· assumption))|((with_reducible refine kQ ?_ ?_);kernel_rfl)|((with_reducible refine k1 ?_ ?_);rfl)|((with_reducible refine k0 ?_ ?_);rfl)|((with_reducible apply kB)<;>first|rfl|intro h)|((with_reducible refine kM ?_ ?_);rfl)|(with_reducible refine Wq.h ?_ ?_)<;>intro h<;>try (exfalso;omega)|(with_reducible refine Wu.h ?_ ?_)<;>intro h<;>try simp only [h]|((fail_if_success with_reducible refine Wz.h ?_);first|simp (disch:=omega) only [↓LD,LA,loadA_rf,seval]|((with_reducible refine And.intro ?_ ?_);omega)|simp only [D.int,D.bool]))
    exact end2 rfl rfl rfl rfl (by kernel_rfl) (.tps (.cons .f (.cons .f .nil))) (hQ _ _ ⟨fun _=>⟨by rw [hv];rfl,rfl⟩,fun h=>by omega⟩)
  · have hv : E = 1:=by rw [hE,if_neg (fun hh=>hh (show v = 0 by assumption)),if_neg (by rw [show (!verB ver) = false by assumption];simp),if_pos (by assumption)]
    repeat' (first|(with_reducible first|refine Wx.h ?_|refine Wb.h fun K hK=>?_|(refine hK _ ?_;clear hK K)|(refine wT ?_ ?_;· assumption)|(refine wF ?_ ?_;· assumption))|((with_reducible refine kQ ?_ ?_);kernel_rfl)|((with_reducible refine k1 ?_ ?_);rfl)|((with_reducible refine k0 ?_ ?_);rfl)|((with_reducible apply kB)<;>first|rfl|intro h)|((with_reducible refine kM ?_ ?_);rfl)|(with_reducible refine Wq.h ?_ ?_)<;>intro h<;>try (exfalso;omega)|(with_reducible refine Wu.h ?_ ?_)<;>intro h<;>try simp only [h]|((fail_if_success with_reducible refine Wz.h ?_);first|simp (disch:=omega) only [↓LD,LA,loadA_rf,seval]|((with_reducible refine And.intro ?_ ?_);omega)|simp only [D.int,D.bool]))
    exact end2 rfl rfl rfl rfl (by kernel_rfl) (.tps (.cons .f (.cons .f .nil))) (hQ _ _ ⟨fun _=>⟨by rw [hv];rfl,rfl⟩,fun h=>by omega⟩)
  · have hv : E = 1:=by rw [hE,if_neg (fun hh=>hh (show v = 0 by assumption)),if_neg (by rw [show (!verB ver) = false by assumption];simp),if_neg (by assumption),if_pos (by assumption)]
    repeat' (first|(with_reducible first|refine Wx.h ?_|refine Wb.h fun K hK=>?_|(refine hK _ ?_;clear hK K)|(refine wT ?_ ?_;· assumption)|(refine wF ?_ ?_;· assumption))|((with_reducible refine kQ ?_ ?_);kernel_rfl)|((with_reducible refine k1 ?_ ?_);rfl)|((with_reducible refine k0 ?_ ?_);rfl)|((with_reducible apply kB)<;>first|rfl|intro h)|((with_reducible refine kM ?_ ?_);rfl)|(with_reducible refine Wq.h ?_ ?_)<;>intro h<;>try (exfalso;omega)|(with_reducible refine Wu.h ?_ ?_)<;>intro h<;>try simp only [h]|((fail_if_success with_reducible refine Wz.h ?_);first|simp (disch:=omega) only [↓LD,LA,loadA_rf,seval]|((with_reducible refine And.intro ?_ ?_);omega)|simp only [D.int,D.bool]))
    exact end2 rfl rfl rfl rfl (by kernel_rfl) (.tps (.cons .f (.cons .f .nil))) (hQ _ _ ⟨fun _=>⟨by rw [hv];rfl,rfl⟩,fun h=>by omega⟩)
  · have hv : E = 4:=by rw [hE,if_neg (fun hh=>hh (show v = 0 by assumption)),if_neg (by rw [show (!verB ver) = false by assumption];simp),if_neg (by assumption),if_neg (by assumption),if_pos (by assumption)]
    repeat' (first|(with_reducible first|refine Wx.h ?_|refine Wb.h fun K hK=>?_|(refine hK _ ?_;clear hK K)|(refine wT ?_ ?_;· assumption)|(refine wF ?_ ?_;· assumption))|((with_reducible refine kQ ?_ ?_);kernel_rfl)|((with_reducible refine k1 ?_ ?_);rfl)|((with_reducible refine k0 ?_ ?_);rfl)|((with_reducible apply kB)<;>first|rfl|intro h)|((with_reducible refine kM ?_ ?_);rfl)|(with_reducible refine Wq.h ?_ ?_)<;>intro h<;>try (exfalso;omega)|(with_reducible refine Wu.h ?_ ?_)<;>intro h<;>try simp only [h]|((fail_if_success with_reducible refine Wz.h ?_);first|simp (disch:=omega) only [↓LD,LA,loadA_rf,seval]|((with_reducible refine And.intro ?_ ?_);omega)|simp only [D.int,D.bool]))
    exact end2 rfl rfl rfl rfl (by kernel_rfl) (.tps (.cons .f (.cons .f .nil))) (hQ _ _ ⟨fun _=>⟨by rw [hv];rfl,rfl⟩,fun h=>by omega⟩)
  · have hv : E = 0:=by rw [hE,if_neg (fun hh=>hh (show v = 0 by assumption)),if_neg (by rw [show (!verB ver) = false by assumption];simp),if_neg (by assumption),if_neg (by assumption),if_neg (by assumption)]
    refine HS.view (View.bcell 2 11 (.f (.s [] 0)) rfl rfl .ns) ?_
    repeat' (first|(with_reducible first|refine Wx.h ?_|refine Wb.h fun K hK=>?_|(refine hK _ ?_;clear hK K)|(refine wT ?_ ?_;· assumption)|(refine wF ?_ ?_;· assumption))|((with_reducible refine kQ ?_ ?_);kernel_rfl)|((with_reducible refine k1 ?_ ?_);rfl)|((with_reducible refine k0 ?_ ?_);rfl)|((with_reducible apply kB)<;>first|rfl|intro h)|((with_reducible refine kM ?_ ?_);rfl)|(with_reducible refine Wq.h ?_ ?_)<;>intro h<;>try (exfalso;omega)|(with_reducible refine Wu.h ?_ ?_)<;>intro h<;>try simp only [h]|((fail_if_success with_reducible refine Wz.h ?_);first|simp (disch:=omega) only [↓LD,LA,loadA_rf,seval]|((with_reducible refine And.intro ?_ ?_);omega)|simp only [D.int,D.bool]))
    exact RetS.gather (ds:=[.pt 2 0,D.int 0]) (e:=⟨.tp [.pt 1 0,D.int 0],[(0,rEv l)],[pnB ⟨s,ver,now,[]⟩]⟩) (by kernel_rfl) (by kernel_rfl) (hQ _ _ ⟨fun h=>absurd hv h,fun _=>⟨rfl,rfl⟩⟩)
  · have hv : E = 1:=by rw [hE,if_pos (show v ≠ 0 by assumption)]
    repeat' (first|(with_reducible first|refine Wx.h ?_|refine Wb.h fun K hK=>?_|(refine hK _ ?_;clear hK K)|(refine wT ?_ ?_;· assumption)|(refine wF ?_ ?_;· assumption))|((with_reducible refine kQ ?_ ?_);kernel_rfl)|((with_reducible refine k1 ?_ ?_);rfl)|((with_reducible refine k0 ?_ ?_);rfl)|((with_reducible apply kB)<;>first|rfl|intro h)|((with_reducible refine kM ?_ ?_);rfl)|(with_reducible refine Wq.h ?_ ?_)<;>intro h<;>try (exfalso;omega)|(with_reducible refine Wu.h ?_ ?_)<;>intro h<;>try simp only [h]|((fail_if_success with_reducible refine Wz.h ?_);first|simp (disch:=omega) only [↓LD,LA,loadA_rf,seval]|((with_reducible refine And.intro ?_ ?_);omega)|simp only [D.int,D.bool]))
    exact end2 rfl rfl rfl rfl (by kernel_rfl) (.tps (.cons .f (.cons .f .nil))) (hQ _ _ ⟨fun _=>⟨by rw [hv];rfl,rfl⟩,fun h=>by omega⟩)
set_option maxHeartbeats 4000000
structure BrOk (l : List Ev) : Prop where
  fold : (foldR s0 l).1 = 0
  fit : ∀ e ∈ l,FitV e
  sig : ∀ e ∈ l,SgN e
theorem BrOk.nil : BrOk []:=⟨rfl,fun e h=>by simp at h,fun e h=>by simp at h⟩
theorem BrOk.ok {l : List Ev} (h : BrOk l) : Ok12 (foldR s0 l).2:=foldR_ok ok12_0 h.fit h.fold
theorem BrOk.id {l : List Ev} (h : BrOk l) : (foldR s0 l).2.id = l.length:=by
  have:=foldR_id h.fold
  rw [this];simp [s0]
theorem BrOk.len {l : List Ev} (h : BrOk l) : l.length ≤ 200:=by
  have h1:=h.id
  have h2:=h.ok.id
  omega
theorem foldR_right : ∀ {l : List Ev} {s : S12},(foldR s l).1 = 0 → ∀ e ∈ l,rightE e = true
  | [],_,_,e,he=>by simp at he
  | x :: l,s,h,e,he=>by
    rw [foldR] at h
    by_cases a : (applyR s x).1 = 0
    · rw [if_pos a] at h
      rcases List.mem_cons.1 he with rfl|he
      · exact (applyR_ok a).1
      · exact foldR_right h e he
    · rw [if_neg a] at h;exact absurd h a
theorem BrOk.right {l : List Ev} (h : BrOk l) {e : Ev} (he : e ∈ l) : rightE e = true:=foldR_right h.fold e he
theorem BrOk.app {l : List Ev} {p : Pn} (h : BrOk l) (hp : PnT (foldR s0 l).2 p) : BrOk (l ++ p.out):=by
  refine ⟨by rw [foldR_app h.fold,hp.ok.out],fun e he=>?_,fun e he=>?_⟩
  rotate_left
  · rcases List.mem_append.1 he with he|he
    · exact h.sig e he
    · exact hp.sg e he
  rcases List.mem_append.1 he with he|he
  · exact h.fit e he
  · exact hp.ok.fit e he
theorem BrOk.pen {l : List Ev} (h : BrOk l) (v now : Int) : PnT (foldR s0 l).2 ⟨(foldR s0 l).2,v,now,[]⟩:=⟨⟨h.ok,h.ok,rfl,fun e he=>by simp at he⟩,fun e he=>by simp at he⟩
theorem newE_ok {l : List Ev} {v now : Int} (h : newE l v now = 0) : verB v = true ∧ 0 ≤ now ∧ now ≤ 1099511627776 ∧ (foldR s0 l).2.ver ≤ v:=by
  unfold newE at h
  split at h
  · cases h
  split at h
  · cases h
  split at h
  · cases h
  split at h
  · cases h
  split at h
  · cases h
  refine ⟨?_,by omega,by omega,by omega⟩
  cases hb : verB v with
  | true=>rfl
  | false=>simp_all
theorem verB_in {v : Int} (h : verB v = true) : 1 ≤ v ∧ v ≤ 1099511627776:=by
  simp only [verB,inI,Bool.and_eq_true,decide_eq_true_eq] at h;exact h.1
set_option maxRecDepth 100000 in
theorem c_play_More (l : List Ev) (hbr : BrOk l) (steps : List Rw) (defs : List Rd) : Con Tryz.prog 15 [.f (fEv l),.f (fRw steps),.f (fR defs)] [] fun r H'=>∃ out,r = .f (fEv out) ∧ BrOk out ∧ H' = []:=by
  suffices hh : ∀ Q : D → List Row → Prop,(∀ out,BrOk out → Q (.f (fEv out)) []) → Con Tryz.prog 15 [.f (fEv l),.f (fRw steps),.f (fR defs)] [] Q from hh _ fun out h=>⟨out,rfl,h,rfl⟩
  intro Q hQ
  have hll:=hbr.len
  refine Con.walk good fn_play_More (by simp) ?_
  unfold s_play_More
  simp only [argsE]
  have hlast : ∀ k : Nat,k < l.length → 1 ≤ (gt l k).ver ∧ (gt l k).ver ≤ 1099511627776 ∧ 0 ≤ (gt l k).time ∧ (gt l k).time ≤ 1099511627776:=fun k hk=>by
    have:=rightE_iff.1 (hbr.right (gt_mem hk))
    have hv:=verB_in this.2.2.1
    exact ⟨hv.1,hv.2,this.2.2.2.1.1,this.2.2.2.1.2⟩
  have hl0:=hlast ((l.length : Int) - 1).toNat
  by_cases hz : l.length = 0
  rotate_left
  have hl1:=hl0 (by omega)
  rotate_left
  obtain rfl:=List.eq_nil_of_length_eq_zero hz
  · repeat' (first|(with_reducible first|refine Wx.h ?_|refine Wb.h fun K hK=>?_|(refine hK _ ?_;clear hK K)|(refine wT ?_ ?_;· assumption)|(refine wF ?_ ?_;· assumption))|((with_reducible refine kQ ?_ ?_);kernel_rfl)|((with_reducible refine k1 ?_ ?_);rfl)|((with_reducible refine k0 ?_ ?_);rfl)|((with_reducible apply kB)<;>first|rfl|intro h)|((with_reducible refine kM ?_ ?_);rfl)|(with_reducible refine Wq.h ?_ ?_)<;>intro h<;>try (exfalso;omega)|(with_reducible refine Wu.h ?_ ?_)<;>intro h<;>try simp only [h]|((fail_if_success with_reducible refine Wz.h ?_);first|simp (disch:=omega) only [↓LD,LA,loadA_rf,seval,LEv,at1_fEv,at2_fEv,len_fEv,Ev.cs]|((with_reducible refine And.intro ?_ ?_);omega)|simp only [D.int,D.bool]))
    refine HS.loopG [1,2,7,8,9,10] (fun x : Nat × List Ev × Int × Int=>⟨frm 88 [(1,.f (fRw steps)),(2,.f (fR defs)),(7,.sl 0 0 x.2.1.length),(8,D.int x.2.2.1),(9,D.int x.2.2.2),(10,D.int x.1)],[rEv x.2.1],[]⟩)
      (fun x=>x.1 ≤ 30 ∧ BrOk x.2.1 ∧ (0 ≤ x.2.2.1 ∧ x.2.2.1 ≤ 1099511627776) ∧ (0 ≤ x.2.2.2 ∧ x.2.2.2 ≤ 1099511627776)) (fun x=>30 - x.1) (0,[],1,0) (by kernel_rfl) ⟨by omega,BrOk.nil,⟨by dsimp only;omega,by dsimp only;omega⟩,⟨by dsimp only;omega,by dsimp only;omega⟩⟩ ?_
    clear hl0 hlast hll hbr
    rintro ⟨i,out,v,now⟩ ⟨hi,ho,hv,hnw⟩
    dsimp only at hi ho hv hnw
    have hol:=ho.len
    have hpc:=pick_in (x:=(gt steps i).c) (n:=5) (by omega)
    repeat' (first|(with_reducible first|refine Wx.h ?_|refine Wb.h fun K hK=>?_|(refine hK _ ?_;clear hK K)|(refine wT ?_ ?_;· assumption)|(refine wF ?_ ?_;· assumption))|((with_reducible refine kQ ?_ ?_);kernel_rfl)|((with_reducible refine k1 ?_ ?_);rfl)|((with_reducible refine k0 ?_ ?_);rfl)|((with_reducible apply kB)<;>first|rfl|intro h)|((with_reducible refine kM ?_ ?_);rfl)|(with_reducible refine Wq.h ?_ ?_)<;>intro h<;>try (exfalso;omega)|(with_reducible refine Wu.h ?_ ?_)<;>intro h<;>try simp only [h]|((fail_if_success with_reducible refine Wz.h ?_);first|simp (disch:=omega) only [↓LD,LA,loadA_rf,seval,slcS_fRw,idxS_fRw,len_fRw,load_fRw,Rw.cs,-loadA_rf,rEv,List.map_cons,List.map_nil]|((with_reducible refine And.intro ?_ ?_);omega)|simp only [D.int,D.bool]))
    · refine callW_emb (c_hand_Version v _ hv.1 (by omega)) [] (by kernel_rfl) rfl rfl ?_
      rintro _ _ ⟨⟨v1,rfl,hv1,hv2,hv3⟩,rfl⟩
      simp (disch:=omega) only [↓LD,LA,loadA_rf,seval,ren,List.getElem?_nil]
      repeat' (first|(with_reducible first|refine Wx.h ?_|refine Wb.h fun K hK=>?_|(refine hK _ ?_;clear hK K)|(refine wT ?_ ?_;· assumption)|(refine wF ?_ ?_;· assumption))|((with_reducible refine kQ ?_ ?_);kernel_rfl)|((with_reducible refine k1 ?_ ?_);rfl)|((with_reducible refine k0 ?_ ?_);rfl)|((with_reducible apply kB)<;>first|rfl|intro h)|((with_reducible refine kM ?_ ?_);rfl)|(with_reducible refine Wq.h ?_ ?_)<;>intro h<;>try (exfalso;omega)|(with_reducible refine Wu.h ?_ ?_)<;>intro h<;>try simp only [h]|((fail_if_success with_reducible refine Wz.h ?_);first|simp (disch:=omega) only [↓LD,LA,loadA_rf,seval,rEv]|((with_reducible refine And.intro ?_ ?_);omega)|simp only [D.int,D.bool]))
      refine callW_emb (c_pen_NewL out v1 (now + pick (gt steps i).c 5) (by omega) ho.fit) [0] (by kernel_rfl) rfl rfl ?_
      rintro _ _ ⟨hq1,hq2⟩
      by_cases hn : newE out v1 (now + pick (gt steps i).c 5) = 0
      · obtain ⟨rfl,rfl⟩:=hq2 hn
        obtain ⟨a1,a2,a3,a4⟩:=newE_ok hn
        have a5:=verB_in a1
        simp (disch:=omega) only [↓LD,LA,loadA_rf,seval,ren,List.getElem?_nil,rEv,pnB,pnD]
        repeat' (first|(with_reducible first|refine Wx.h ?_|refine Wb.h fun K hK=>?_|(refine hK _ ?_;clear hK K)|(refine wT ?_ ?_;· assumption)|(refine wF ?_ ?_;· assumption))|((with_reducible refine kQ ?_ ?_);kernel_rfl)|((with_reducible refine k1 ?_ ?_);rfl)|((with_reducible refine k0 ?_ ?_);rfl)|((with_reducible apply kB)<;>first|rfl|intro h)|((with_reducible refine kM ?_ ?_);rfl)|(with_reducible refine Wq.h ?_ ?_)<;>intro h<;>try (exfalso;omega)|(with_reducible refine Wu.h ?_ ?_)<;>intro h<;>try simp only [h]|((fail_if_success with_reducible refine Wz.h ?_);first|simp (disch:=omega) only [↓LD,LA,loadA_rf,seval,rEv,pnB,pnD]|((with_reducible refine And.intro ?_ ?_);omega)|simp only [D.int,D.bool]))
        refine callW_emb (c_play_step (foldR s0 out).2 ⟨(foldR s0 out).2,v1,now + pick (gt steps i).c 5,[]⟩ (gt steps i) defs (ho.pen _ _)) [2] (by kernel_rfl) rfl rfl ?_
        rintro _ _ ⟨rfl,p',rfl,hp'⟩
        have hpl:=hp'.ok.len
        have hap:=ho.app hp'
        simp (disch:=omega) only [↓LD,LA,loadA_rf,seval,ren,List.getElem?_nil,rEv,pnB,pnD]
        repeat' (first|(with_reducible first|refine Wx.h ?_|refine Wb.h fun K hK=>?_|(refine hK _ ?_;clear hK K)|(refine wT ?_ ?_;· assumption)|(refine wF ?_ ?_;· assumption))|((with_reducible refine kQ ?_ ?_);kernel_rfl)|((with_reducible refine k1 ?_ ?_);rfl)|((with_reducible refine k0 ?_ ?_);rfl)|((with_reducible apply kB)<;>first|rfl|intro h)|((with_reducible refine kM ?_ ?_);rfl)|(with_reducible refine Wq.h ?_ ?_)<;>intro h<;>try (exfalso;omega)|(with_reducible refine Wu.h ?_ ?_)<;>intro h<;>try simp only [h]|((fail_if_success with_reducible refine Wz.h ?_);first|simp (disch:=omega) only [↓LD,LA,loadA_rf,seval,rEv,LEv,len_fEv]|((with_reducible refine And.intro ?_ ?_);omega)|simp only [D.int,D.bool]))
        · exact Next.mk (i + 1,out,v1,now + pick (gt steps i).c 5) (by kernel_rfl) ⟨by dsimp only;omega,ho,⟨by dsimp only;omega,by dsimp only;omega⟩,⟨by dsimp only;omega,by dsimp only;omega⟩⟩ (by dsimp only;omega)
        · rw [← List.flatMap_append,← List.length_append]
          exact Next.mk (i + 1,out ++ p'.out,v1,now + pick (gt steps i).c 5) (by kernel_rfl) ⟨by dsimp only;omega,hap,⟨by dsimp only;omega,by dsimp only;omega⟩,⟨by dsimp only;omega,by dsimp only;omega⟩⟩ (by dsimp only;omega)
      · obtain ⟨rfl,rfl⟩:=hq1 hn
        simp (disch:=omega) only [↓LD,LA,loadA_rf,seval,ren,List.getElem?_nil,rEv]
        repeat' (first|(with_reducible first|refine Wx.h ?_|refine Wb.h fun K hK=>?_|(refine hK _ ?_;clear hK K)|(refine wT ?_ ?_;· assumption)|(refine wF ?_ ?_;· assumption))|((with_reducible refine kQ ?_ ?_);kernel_rfl)|((with_reducible refine k1 ?_ ?_);rfl)|((with_reducible refine k0 ?_ ?_);rfl)|((with_reducible apply kB)<;>first|rfl|intro h)|((with_reducible refine kM ?_ ?_);rfl)|(with_reducible refine Wq.h ?_ ?_)<;>intro h<;>try (exfalso;omega)|(with_reducible refine Wu.h ?_ ?_)<;>intro h<;>try simp only [h]|((fail_if_success with_reducible refine Wz.h ?_);first|simp (disch:=omega) only [↓LD,LA,loadA_rf,seval,rEv]|((with_reducible refine And.intro ?_ ?_);omega)|simp only [D.int,D.bool]))
        exact end1 rfl rfl (by kernel_rfl) (.sl (T:=42) (xs:=out.flatMap Ev.cs) rfl (fun e=>by rw [List.eq_nil_of_length_eq_zero e];rfl)) (hQ out ho)
    · exact end1 rfl rfl (by kernel_rfl) (.sl (T:=42) (xs:=out.flatMap Ev.cs) rfl (fun e=>by rw [List.eq_nil_of_length_eq_zero e];rfl)) (hQ out ho)
    · exact end1 rfl rfl (by kernel_rfl) (.sl (T:=42) (xs:=out.flatMap Ev.cs) rfl (fun e=>by rw [List.eq_nil_of_length_eq_zero e];rfl)) (hQ out ho)
    · exact end1 rfl rfl (by kernel_rfl) (.sl (T:=42) (xs:=out.flatMap Ev.cs) rfl (fun e=>by rw [List.eq_nil_of_length_eq_zero e];rfl)) (hQ out ho)
  · repeat' (first|(with_reducible first|refine Wx.h ?_|refine Wb.h fun K hK=>?_|(refine hK _ ?_;clear hK K)|(refine wT ?_ ?_;· assumption)|(refine wF ?_ ?_;· assumption))|((with_reducible refine kQ ?_ ?_);kernel_rfl)|((with_reducible refine k1 ?_ ?_);rfl)|((with_reducible refine k0 ?_ ?_);rfl)|((with_reducible apply kB)<;>first|rfl|intro h)|((with_reducible refine kM ?_ ?_);rfl)|(with_reducible refine Wq.h ?_ ?_)<;>intro h<;>try (exfalso;omega)|(with_reducible refine Wu.h ?_ ?_)<;>intro h<;>try simp only [h]|((fail_if_success with_reducible refine Wz.h ?_);first|simp (disch:=omega) only [↓LD,LA,loadA_rf,seval,LEv,at1_fEv,at2_fEv,len_fEv,Ev.cs]|((with_reducible refine And.intro ?_ ?_);omega)|simp only [D.int,D.bool]))
    refine HS.loopG [1,2,7,8,9,10] (fun x : Nat × List Ev × Int × Int=>⟨frm 88 [(1,.f (fRw steps)),(2,.f (fR defs)),(7,.sl 0 0 x.2.1.length),(8,D.int x.2.2.1),(9,D.int x.2.2.2),(10,D.int x.1)],[rEv x.2.1],[]⟩)
      (fun x=>x.1 ≤ 30 ∧ BrOk x.2.1 ∧ (0 ≤ x.2.2.1 ∧ x.2.2.1 ≤ 1099511627776) ∧ (0 ≤ x.2.2.2 ∧ x.2.2.2 ≤ 1099511627776)) (fun x=>30 - x.1) (0,l,(gt l ((l.length : Int) - 1).toNat).ver,(gt l ((l.length : Int) - 1).toNat).time) (by kernel_rfl) ⟨by omega,hbr,⟨by dsimp only;omega,by dsimp only;omega⟩,⟨by dsimp only;omega,by dsimp only;omega⟩⟩ ?_
    clear hl0 hlast hll hbr
    rintro ⟨i,out,v,now⟩ ⟨hi,ho,hv,hnw⟩
    dsimp only at hi ho hv hnw
    have hol:=ho.len
    have hpc:=pick_in (x:=(gt steps i).c) (n:=5) (by omega)
    repeat' (first|(with_reducible first|refine Wx.h ?_|refine Wb.h fun K hK=>?_|(refine hK _ ?_;clear hK K)|(refine wT ?_ ?_;· assumption)|(refine wF ?_ ?_;· assumption))|((with_reducible refine kQ ?_ ?_);kernel_rfl)|((with_reducible refine k1 ?_ ?_);rfl)|((with_reducible refine k0 ?_ ?_);rfl)|((with_reducible apply kB)<;>first|rfl|intro h)|((with_reducible refine kM ?_ ?_);rfl)|(with_reducible refine Wq.h ?_ ?_)<;>intro h<;>try (exfalso;omega)|(with_reducible refine Wu.h ?_ ?_)<;>intro h<;>try simp only [h]|((fail_if_success with_reducible refine Wz.h ?_);first|simp (disch:=omega) only [↓LD,LA,loadA_rf,seval,slcS_fRw,idxS_fRw,len_fRw,load_fRw,Rw.cs,-loadA_rf,rEv,List.map_cons,List.map_nil]|((with_reducible refine And.intro ?_ ?_);omega)|simp only [D.int,D.bool]))
    · refine callW_emb (c_hand_Version v _ hv.1 (by omega)) [] (by kernel_rfl) rfl rfl ?_
      rintro _ _ ⟨⟨v1,rfl,hv1,hv2,hv3⟩,rfl⟩
      simp (disch:=omega) only [↓LD,LA,loadA_rf,seval,ren,List.getElem?_nil]
      repeat' (first|(with_reducible first|refine Wx.h ?_|refine Wb.h fun K hK=>?_|(refine hK _ ?_;clear hK K)|(refine wT ?_ ?_;· assumption)|(refine wF ?_ ?_;· assumption))|((with_reducible refine kQ ?_ ?_);kernel_rfl)|((with_reducible refine k1 ?_ ?_);rfl)|((with_reducible refine k0 ?_ ?_);rfl)|((with_reducible apply kB)<;>first|rfl|intro h)|((with_reducible refine kM ?_ ?_);rfl)|(with_reducible refine Wq.h ?_ ?_)<;>intro h<;>try (exfalso;omega)|(with_reducible refine Wu.h ?_ ?_)<;>intro h<;>try simp only [h]|((fail_if_success with_reducible refine Wz.h ?_);first|simp (disch:=omega) only [↓LD,LA,loadA_rf,seval,rEv]|((with_reducible refine And.intro ?_ ?_);omega)|simp only [D.int,D.bool]))
      refine callW_emb (c_pen_NewL out v1 (now + pick (gt steps i).c 5) (by omega) ho.fit) [0] (by kernel_rfl) rfl rfl ?_
      rintro _ _ ⟨hq1,hq2⟩
      by_cases hn : newE out v1 (now + pick (gt steps i).c 5) = 0
      · obtain ⟨rfl,rfl⟩:=hq2 hn
        obtain ⟨a1,a2,a3,a4⟩:=newE_ok hn
        have a5:=verB_in a1
        simp (disch:=omega) only [↓LD,LA,loadA_rf,seval,ren,List.getElem?_nil,rEv,pnB,pnD]
        repeat' (first|(with_reducible first|refine Wx.h ?_|refine Wb.h fun K hK=>?_|(refine hK _ ?_;clear hK K)|(refine wT ?_ ?_;· assumption)|(refine wF ?_ ?_;· assumption))|((with_reducible refine kQ ?_ ?_);kernel_rfl)|((with_reducible refine k1 ?_ ?_);rfl)|((with_reducible refine k0 ?_ ?_);rfl)|((with_reducible apply kB)<;>first|rfl|intro h)|((with_reducible refine kM ?_ ?_);rfl)|(with_reducible refine Wq.h ?_ ?_)<;>intro h<;>try (exfalso;omega)|(with_reducible refine Wu.h ?_ ?_)<;>intro h<;>try simp only [h]|((fail_if_success with_reducible refine Wz.h ?_);first|simp (disch:=omega) only [↓LD,LA,loadA_rf,seval,rEv,pnB,pnD]|((with_reducible refine And.intro ?_ ?_);omega)|simp only [D.int,D.bool]))
        refine callW_emb (c_play_step (foldR s0 out).2 ⟨(foldR s0 out).2,v1,now + pick (gt steps i).c 5,[]⟩ (gt steps i) defs (ho.pen _ _)) [2] (by kernel_rfl) rfl rfl ?_
        rintro _ _ ⟨rfl,p',rfl,hp'⟩
        have hpl:=hp'.ok.len
        have hap:=ho.app hp'
        simp (disch:=omega) only [↓LD,LA,loadA_rf,seval,ren,List.getElem?_nil,rEv,pnB,pnD]
        repeat' (first|(with_reducible first|refine Wx.h ?_|refine Wb.h fun K hK=>?_|(refine hK _ ?_;clear hK K)|(refine wT ?_ ?_;· assumption)|(refine wF ?_ ?_;· assumption))|((with_reducible refine kQ ?_ ?_);kernel_rfl)|((with_reducible refine k1 ?_ ?_);rfl)|((with_reducible refine k0 ?_ ?_);rfl)|((with_reducible apply kB)<;>first|rfl|intro h)|((with_reducible refine kM ?_ ?_);rfl)|(with_reducible refine Wq.h ?_ ?_)<;>intro h<;>try (exfalso;omega)|(with_reducible refine Wu.h ?_ ?_)<;>intro h<;>try simp only [h]|((fail_if_success with_reducible refine Wz.h ?_);first|simp (disch:=omega) only [↓LD,LA,loadA_rf,seval,rEv,LEv,len_fEv]|((with_reducible refine And.intro ?_ ?_);omega)|simp only [D.int,D.bool]))
        · exact Next.mk (i + 1,out,v1,now + pick (gt steps i).c 5) (by kernel_rfl) ⟨by dsimp only;omega,ho,⟨by dsimp only;omega,by dsimp only;omega⟩,⟨by dsimp only;omega,by dsimp only;omega⟩⟩ (by dsimp only;omega)
        · rw [← List.flatMap_append,← List.length_append]
          exact Next.mk (i + 1,out ++ p'.out,v1,now + pick (gt steps i).c 5) (by kernel_rfl) ⟨by dsimp only;omega,hap,⟨by dsimp only;omega,by dsimp only;omega⟩,⟨by dsimp only;omega,by dsimp only;omega⟩⟩ (by dsimp only;omega)
      · obtain ⟨rfl,rfl⟩:=hq1 hn
        simp (disch:=omega) only [↓LD,LA,loadA_rf,seval,ren,List.getElem?_nil,rEv]
        repeat' (first|(with_reducible first|refine Wx.h ?_|refine Wb.h fun K hK=>?_|(refine hK _ ?_;clear hK K)|(refine wT ?_ ?_;· assumption)|(refine wF ?_ ?_;· assumption))|((with_reducible refine kQ ?_ ?_);kernel_rfl)|((with_reducible refine k1 ?_ ?_);rfl)|((with_reducible refine k0 ?_ ?_);rfl)|((with_reducible apply kB)<;>first|rfl|intro h)|((with_reducible refine kM ?_ ?_);rfl)|(with_reducible refine Wq.h ?_ ?_)<;>intro h<;>try (exfalso;omega)|(with_reducible refine Wu.h ?_ ?_)<;>intro h<;>try simp only [h]|((fail_if_success with_reducible refine Wz.h ?_);first|simp (disch:=omega) only [↓LD,LA,loadA_rf,seval,rEv]|((with_reducible refine And.intro ?_ ?_);omega)|simp only [D.int,D.bool]))
        exact end1 rfl rfl (by kernel_rfl) (.sl (T:=42) (xs:=out.flatMap Ev.cs) rfl (fun e=>by rw [List.eq_nil_of_length_eq_zero e];rfl)) (hQ out ho)
    · exact end1 rfl rfl (by kernel_rfl) (.sl (T:=42) (xs:=out.flatMap Ev.cs) rfl (fun e=>by rw [List.eq_nil_of_length_eq_zero e];rfl)) (hQ out ho)
    · exact end1 rfl rfl (by kernel_rfl) (.sl (T:=42) (xs:=out.flatMap Ev.cs) rfl (fun e=>by rw [List.eq_nil_of_length_eq_zero e];rfl)) (hQ out ho)
    · exact end1 rfl rfl (by kernel_rfl) (.sl (T:=42) (xs:=out.flatMap Ev.cs) rfl (fun e=>by rw [List.eq_nil_of_length_eq_zero e];rfl)) (hQ out ho)
theorem c_play_Branch (steps : List Rw) (defs : List Rd) : Con Tryz.prog 6 [.f (fRw steps),.f (fR defs)] [] fun r H'=>∃ out,r = .f (fEv out) ∧ BrOk out ∧ H' = []:=by
  refine Con.walk good fn_play_Branch (by simp) ?_
  unfold s_play_Branch
  simp only [argsE]
  repeat' (first|(with_reducible first|refine Wx.h ?_|refine Wb.h fun K hK=>?_|(refine hK _ ?_;clear hK K)|(refine wT ?_ ?_;· assumption)|(refine wF ?_ ?_;· assumption))|((with_reducible refine kQ ?_ ?_);kernel_rfl)|((with_reducible refine k1 ?_ ?_);rfl)|((with_reducible refine k0 ?_ ?_);rfl)|((with_reducible apply kB)<;>first|rfl|intro h)|((with_reducible refine kM ?_ ?_);rfl)|(with_reducible refine Wq.h ?_ ?_)<;>intro h<;>try (exfalso;omega)|(with_reducible refine Wu.h ?_ ?_)<;>intro h<;>try simp only [h]|((fail_if_success with_reducible refine Wz.h ?_);first|simp (disch:=omega) only [↓LD,LA,loadA_rf,seval]|((with_reducible refine And.intro ?_ ?_);omega)|simp only [D.int,D.bool]))
  refine callW_less (args0:=[.f (fEv []),.f (fRw steps),.f (fR defs)]) ?_ (.cons (.f .ns) (.cons .refl (.cons .refl .nil)))
  refine callW_emb (c_play_More [] BrOk.nil steps defs) [] (by kernel_rfl) rfl rfl ?_
  rintro _ _ ⟨out,rfl,ho,rfl⟩
  simp (disch:=omega) only [↓LD,LA,loadA_rf,seval,ren,List.getElem?_nil]
  repeat' (first|(with_reducible first|refine Wx.h ?_|refine Wb.h fun K hK=>?_|(refine hK _ ?_;clear hK K)|(refine wT ?_ ?_;· assumption)|(refine wF ?_ ?_;· assumption))|((with_reducible refine kQ ?_ ?_);kernel_rfl)|((with_reducible refine k1 ?_ ?_);rfl)|((with_reducible refine k0 ?_ ?_);rfl)|((with_reducible apply kB)<;>first|rfl|intro h)|((with_reducible refine kM ?_ ?_);rfl)|(with_reducible refine Wq.h ?_ ?_)<;>intro h<;>try (exfalso;omega)|(with_reducible refine Wu.h ?_ ?_)<;>intro h<;>try simp only [h]|((fail_if_success with_reducible refine Wz.h ?_);first|simp (disch:=omega) only [↓LD,LA,loadA_rf,seval]|((with_reducible refine And.intro ?_ ?_);omega)|simp only [D.int,D.bool]))
  exact end1 rfl rfl (by kernel_rfl) .f ⟨out,rfl,ho,rfl⟩
set_option maxHeartbeats 4000000
theorem foldR_part : ∀ {b : List Ev} {s : S12} {i : Nat},(foldR s b).1 = 0 → (foldR s (b.take i)).1 = 0
  | [],s,i,h=>by simpa using h
  | e :: b,s,0,h=>rfl
  | e :: b,s,i + 1,h=>by
    rw [List.take_succ_cons,foldR]
    rw [foldR] at h
    by_cases a : (applyR s e).1 = 0
    · rw [if_pos a] at h ⊢;exact foldR_part h
    · rw [if_neg a] at h;exact absurd h a
end Go.Proofs.YtgbbpelfpagdoaaGreatDoor.Mir
