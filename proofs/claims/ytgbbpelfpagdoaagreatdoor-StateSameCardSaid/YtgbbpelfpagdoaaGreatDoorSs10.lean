/- Texts laid into one file: RgD, RgE, RgF, RgB, RgC. -/
import Derived.Test.YtgbbpelfpagdoaaGreatDoorSs09
set_option linter.unusedVariables false
set_option linter.unusedSimpArgs false
namespace Go.Proofs.YtgbbpelfpagdoaaGreatDoor.Mir
open Go Go.RowKit
set_option maxHeartbeats 4000000
theorem cnt_step {l : List Nn} {i : Nat} {k : Int} (hil : i < l.length) : cntL (l.take (i + 1)) k = cntL (l.take i) k + (if (gt l i).st = k then 1 else 0):=by
  rw [List.take_succ_eq_append_getElem hil,cntL,List.countP_append,← gt_eq hil]
  simp [cntL]
theorem cnt_le {l : List Nn} {i : Nat} {k : Int} (hi : i ≤ l.length) : cntL (l.take i) k ≤ i:=Nat.le_trans (List.countP_le_length) (by simp;omega)
theorem c_ref_count (s : S12) (k : Int) (hl : s.nodes.length ≤ 1000000) : Con Tryz.prog 32 [stD s,D.int k] [] fun r H'=>r = D.int (cntL s.nodes k) ∧ H' = []:=by
  obtain ⟨id,ver,time,closed,cancel,defs,nodes,tms,sgs⟩:=s
  dsimp only at hl ⊢
  refine Con.walk good fn_ref_count (by simp) ?_
  unfold s_ref_count
  simp only [argsE,stD]
  repeat' (first|(with_reducible first|refine Wx.h ?_|refine Wb.h fun K hK=>?_|(refine hK _ ?_;clear hK K)|(refine wT ?_ ?_;· assumption)|(refine wF ?_ ?_;· assumption))|((with_reducible refine kQ ?_ ?_);kernel_rfl)|((with_reducible refine k1 ?_ ?_);rfl)|((with_reducible refine k0 ?_ ?_);rfl)|((with_reducible apply kB)<;>first|rfl|intro h)|((with_reducible refine kM ?_ ?_);rfl)|(with_reducible refine Wq.h ?_ ?_)<;>intro h<;>try (exfalso;omega)|(with_reducible refine Wu.h ?_ ?_)<;>intro h<;>try simp only [h]|((fail_if_success with_reducible refine Wz.h ?_);first|simp (disch:=omega) only [↓LD,LA,loadA_rf,seval,LSt]|((with_reducible refine And.intro ?_ ?_);omega)|simp only [D.int,D.bool]))
  refine HS.loopG [1,2,5,6] (fun i : Nat=>⟨frm 25 [(1,D.int k),(2,.pt 0 0),(5,D.int (cntL (nodes.take i) k)),(6,D.int i)],[stF ⟨id,ver,time,closed,cancel,defs,nodes,tms,sgs⟩],[]⟩)
    (fun i=>i ≤ nodes.length) (fun i=>nodes.length - i) 0 (by kernel_rfl) (Nat.zero_le _) ?_
  rintro i hi
  by_cases hil : i < nodes.length
  · have hc:=cnt_le (k:=k) hi
    have hs:=cnt_step (k:=k) hil
    repeat' (first|(with_reducible first|refine Wx.h ?_|refine Wb.h fun K hK=>?_|(refine hK _ ?_;clear hK K)|(refine wT ?_ ?_;· assumption)|(refine wF ?_ ?_;· assumption))|((with_reducible refine kQ ?_ ?_);kernel_rfl)|((with_reducible refine k1 ?_ ?_);rfl)|((with_reducible refine k0 ?_ ?_);rfl)|((with_reducible apply kB)<;>first|rfl|intro h)|((with_reducible refine kM ?_ ?_);rfl)|(with_reducible refine Wq.h ?_ ?_)<;>intro h<;>try (exfalso;omega)|(with_reducible refine Wu.h ?_ ?_)<;>intro h<;>try simp only [h]|((fail_if_success with_reducible refine Wz.h ?_);first|simp (disch:=omega) only [↓LD,LA,loadA_rf,seval,LSt,stF,at0_fNn,Nn.cs,len_fNn]|((with_reducible refine And.intro ?_ ?_);omega)|simp only [D.int,D.bool]))
    · exact Next.mk (i + 1) (by rw [hs,if_pos (by assumption)];kernel_rfl) (by omega) (by omega)
    · exact Next.mk (i + 1) (by rw [hs,if_neg (by assumption)];kernel_rfl) (by omega) (by omega)
  · repeat' (first|(with_reducible first|refine Wx.h ?_|refine Wb.h fun K hK=>?_|(refine hK _ ?_;clear hK K)|(refine wT ?_ ?_;· assumption)|(refine wF ?_ ?_;· assumption))|((with_reducible refine kQ ?_ ?_);kernel_rfl)|((with_reducible refine k1 ?_ ?_);rfl)|((with_reducible refine k0 ?_ ?_);rfl)|((with_reducible apply kB)<;>first|rfl|intro h)|((with_reducible refine kM ?_ ?_);rfl)|(with_reducible refine Wq.h ?_ ?_)<;>intro h<;>try (exfalso;omega)|(with_reducible refine Wu.h ?_ ?_)<;>intro h<;>try simp only [h]|((fail_if_success with_reducible refine Wz.h ?_);first|simp (disch:=omega) only [↓LD,LA,loadA_rf,seval,LSt,stF]|((with_reducible refine And.intro ?_ ?_);omega)|simp only [D.int,D.bool]))
    refine end1 rfl rfl (by kernel_rfl) .f ⟨?_,rfl⟩
    rw [List.take_of_length_le (by omega)];rfl
theorem c_ref_Has (s : S12) (nm : Bs) (hl : s.sgs.length ≤ 1000000) : Con Tryz.prog 31 [stD s,.f (.v (.string (BB nm)))] [] fun r H'=>r = D.bool (hasSg s.sgs nm) ∧ H' = []:=by
  obtain ⟨id,ver,time,closed,cancel,defs,nodes,tms,sgs⟩:=s
  dsimp only at hl ⊢
  refine Con.walk good fn_ref_Has (by simp) ?_
  unfold s_ref_Has
  simp only [argsE,stD]
  repeat' (first|(with_reducible first|refine Wx.h ?_|refine Wb.h fun K hK=>?_|(refine hK _ ?_;clear hK K)|(refine wT ?_ ?_;· assumption)|(refine wF ?_ ?_;· assumption))|((with_reducible refine kQ ?_ ?_);kernel_rfl)|((with_reducible refine k1 ?_ ?_);rfl)|((with_reducible refine k0 ?_ ?_);rfl)|((with_reducible apply kB)<;>first|rfl|intro h)|((with_reducible refine kM ?_ ?_);rfl)|(with_reducible refine Wq.h ?_ ?_)<;>intro h<;>try (exfalso;omega)|(with_reducible refine Wu.h ?_ ?_)<;>intro h<;>try simp only [h]|((fail_if_success with_reducible refine Wz.h ?_);first|simp (disch:=omega) only [↓LD,LA,loadA_rf,seval,LSt]|((with_reducible refine And.intro ?_ ?_);omega)|simp only [D.int,D.bool]))
  refine HS.loopG [1,2,5] (fun i : Nat=>⟨frm 21 [(1,.f (.v (.string (BB nm)))),(2,.pt 0 0),(5,D.int i)],[stF ⟨id,ver,time,closed,cancel,defs,nodes,tms,sgs⟩],[]⟩)
    (fun i=>i ≤ sgs.length ∧ hasSg sgs nm = hasSg (sgs.drop i) nm) (fun i=>sgs.length - i) 0 (by kernel_rfl) ⟨Nat.zero_le _,rfl⟩ ?_
  rintro i ⟨hi,hh⟩
  by_cases hil : i < sgs.length
  · rw [drop_gt hil] at hh
    have hh2 : hasSg (gt sgs i :: sgs.drop (i + 1)) nm = (decide ((gt sgs i).name = nm) || hasSg (sgs.drop (i + 1)) nm):=rfl
    rw [hh2] at hh
    repeat' (first|(with_reducible first|refine Wx.h ?_|refine Wb.h fun K hK=>?_|(refine hK _ ?_;clear hK K)|(refine wT ?_ ?_;· assumption)|(refine wF ?_ ?_;· assumption))|((with_reducible refine kQ ?_ ?_);kernel_rfl)|((with_reducible refine k1 ?_ ?_);rfl)|((with_reducible refine k0 ?_ ?_);rfl)|((with_reducible apply kB)<;>first|rfl|intro h)|((with_reducible refine kM ?_ ?_);rfl)|(with_reducible refine Wq.h ?_ ?_)<;>intro h<;>try (exfalso;omega)|(with_reducible refine Wu.h ?_ ?_)<;>intro h<;>try simp only [h]|((fail_if_success with_reducible refine Wz.h ?_);first|simp (disch:=omega) only [↓LD,LA,loadA_rf,seval,LSt,stF,at0_fSg,Sg.cs,len_fSg]|((with_reducible refine And.intro ?_ ?_);omega)|simp only [D.int,D.bool]))
    · exact end1 rfl rfl (by kernel_rfl) .f ⟨by rw [hh,decide_eq_true (by assumption)];rfl,rfl⟩
    · exact Next.mk (i + 1) (by kernel_rfl) ⟨by omega,by rw [hh,decide_eq_false (by assumption)];rfl⟩ (by omega)
  · repeat' (first|(with_reducible first|refine Wx.h ?_|refine Wb.h fun K hK=>?_|(refine hK _ ?_;clear hK K)|(refine wT ?_ ?_;· assumption)|(refine wF ?_ ?_;· assumption))|((with_reducible refine kQ ?_ ?_);kernel_rfl)|((with_reducible refine k1 ?_ ?_);rfl)|((with_reducible refine k0 ?_ ?_);rfl)|((with_reducible apply kB)<;>first|rfl|intro h)|((with_reducible refine kM ?_ ?_);rfl)|(with_reducible refine Wq.h ?_ ?_)<;>intro h<;>try (exfalso;omega)|(with_reducible refine Wu.h ?_ ?_)<;>intro h<;>try simp only [h]|((fail_if_success with_reducible refine Wz.h ?_);first|simp (disch:=omega) only [↓LD,LA,loadA_rf,seval,LSt,stF]|((with_reducible refine And.intro ?_ ?_);omega)|simp only [D.int,D.bool]))
    refine end1 rfl rfl (by kernel_rfl) .f ⟨?_,rfl⟩
    rw [hh,List.drop_of_length_le (by omega)];rfl
theorem c_ref_timer (s : S12) (nm : Bs) (hl : s.tms.length ≤ 1000000) : Con Tryz.prog 59 [stD s,.f (.v (.string (BB nm)))] [] fun r H'=>r = D.int (tmI s.tms nm) ∧ H' = []:=by
  obtain ⟨id,ver,time,closed,cancel,defs,nodes,tms,sgs⟩:=s
  dsimp only at hl ⊢
  refine Con.walk good fn_ref_timer (by simp) ?_
  unfold s_ref_timer
  simp only [argsE,stD]
  repeat' (first|(with_reducible first|refine Wx.h ?_|refine Wb.h fun K hK=>?_|(refine hK _ ?_;clear hK K)|(refine wT ?_ ?_;· assumption)|(refine wF ?_ ?_;· assumption))|((with_reducible refine kQ ?_ ?_);kernel_rfl)|((with_reducible refine k1 ?_ ?_);rfl)|((with_reducible refine k0 ?_ ?_);rfl)|((with_reducible apply kB)<;>first|rfl|intro h)|((with_reducible refine kM ?_ ?_);rfl)|(with_reducible refine Wq.h ?_ ?_)<;>intro h<;>try (exfalso;omega)|(with_reducible refine Wu.h ?_ ?_)<;>intro h<;>try simp only [h]|((fail_if_success with_reducible refine Wz.h ?_);first|simp (disch:=omega) only [↓LD,LA,loadA_rf,seval,LSt]|((with_reducible refine And.intro ?_ ?_);omega)|simp only [D.int,D.bool]))
  refine HS.loopG [1,2,5] (fun i : Nat=>⟨frm 22 [(1,.f (.v (.string (BB nm)))),(2,.pt 0 0),(5,D.int i)],[stF ⟨id,ver,time,closed,cancel,defs,nodes,tms,sgs⟩],[]⟩)
    (fun i=>i ≤ tms.length ∧ tmI tms nm = idxF (fun x : Tm=>decide (x.name = nm)) i (tms.drop i)) (fun i=>tms.length - i) 0 (by kernel_rfl) ⟨Nat.zero_le _,rfl⟩ ?_
  rintro i ⟨hi,hh⟩
  by_cases hil : i < tms.length
  · rw [drop_gt hil,idxF] at hh
    repeat' (first|(with_reducible first|refine Wx.h ?_|refine Wb.h fun K hK=>?_|(refine hK _ ?_;clear hK K)|(refine wT ?_ ?_;· assumption)|(refine wF ?_ ?_;· assumption))|((with_reducible refine kQ ?_ ?_);kernel_rfl)|((with_reducible refine k1 ?_ ?_);rfl)|((with_reducible refine k0 ?_ ?_);rfl)|((with_reducible apply kB)<;>first|rfl|intro h)|((with_reducible refine kM ?_ ?_);rfl)|(with_reducible refine Wq.h ?_ ?_)<;>intro h<;>try (exfalso;omega)|(with_reducible refine Wu.h ?_ ?_)<;>intro h<;>try simp only [h]|((fail_if_success with_reducible refine Wz.h ?_);first|simp (disch:=omega) only [↓LD,LA,loadA_rf,seval,LSt,stF,at0_fTm,Tm.cs,len_fTm]|((with_reducible refine And.intro ?_ ?_);omega)|simp only [D.int,D.bool]))
    · exact end1 rfl rfl (by kernel_rfl) .f ⟨by rw [hh,if_pos (by simp [*])];rfl,rfl⟩
    · exact Next.mk (i + 1) (by kernel_rfl) ⟨by omega,by rw [hh,if_neg (by simp [*])]⟩ (by omega)
  · repeat' (first|(with_reducible first|refine Wx.h ?_|refine Wb.h fun K hK=>?_|(refine hK _ ?_;clear hK K)|(refine wT ?_ ?_;· assumption)|(refine wF ?_ ?_;· assumption))|((with_reducible refine kQ ?_ ?_);kernel_rfl)|((with_reducible refine k1 ?_ ?_);rfl)|((with_reducible refine k0 ?_ ?_);rfl)|((with_reducible apply kB)<;>first|rfl|intro h)|((with_reducible refine kM ?_ ?_);rfl)|(with_reducible refine Wq.h ?_ ?_)<;>intro h<;>try (exfalso;omega)|(with_reducible refine Wu.h ?_ ?_)<;>intro h<;>try simp only [h]|((fail_if_success with_reducible refine Wz.h ?_);first|simp (disch:=omega) only [↓LD,LA,loadA_rf,seval,LSt,stF]|((with_reducible refine And.intro ?_ ?_);omega)|simp only [D.int,D.bool]))
    refine end1 rfl rfl (by kernel_rfl) .f ⟨?_,rfl⟩
    rw [hh,List.drop_of_length_le (by omega)];rfl
def stK (a : Nat) (s : S12) : List D:=[D.int s.id,D.int s.ver,D.int s.time,D.int s.closed,D.bool s.cancel,.f (fG s.defs),.sl a 0 s.nodes.length,.f (fTm s.tms),.f (fSg s.sgs)]
def readyR (s : S12) : List Int:=if s.closed ≠ 0 ∨ s.cancel = true then [] else (rdy (doneL s.nodes) 0 s.defs).filter (wtB s.nodes)
theorem rdy_lt {done : List Bool} : ∀ {k : Nat} {ds : List Nd} {x : Int},x ∈ rdy done k ds → x < k + ds.length
  | k,[],x,h=>by simp [rdy] at h
  | k,d :: ds,x,h=>by
    simp only [rdy] at h
    simp only [List.length_cons]
    split at h
    · rcases List.mem_cons.1 h with rfl|h
      · omega
      · have:=rdy_lt h;omega
    · have:=rdy_lt h;omega
theorem done_step {l : List Nn} {i : Nat} (h : i < l.length) : doneL (l.take i) ++ [decide ((gt l i).st = 2)] = doneL (l.take (i + 1)):=by
  rw [List.take_succ_eq_append_getElem h,← gt_eq h];simp [doneL]
theorem done_len {l : List Nn} {i : Nat} (h : i ≤ l.length) : (doneL (l.take i)).length = i:=by simp [doneL];omega
theorem app_b {l : List Bool} {b : Bool} : l.map bF ++ [bF b] = (l ++ [b]).map bF:=by simp
theorem c_ref_ReadyNodesF (s : S12) (hf : Fit s.defs) (hp : Pos s.defs) (hl : s.nodes.length ≤ 1000000) (hnd : s.nodes.length = s.defs.length) : Con Tryz.prog 58 [stD s] [] fun r H'=>r = .f (fI (readyR s)) ∧ H' = []:=by
  obtain ⟨id,ver,time,closed,cancel,defs,nodes,tms,sgs⟩:=s
  dsimp only at hf hl hp hnd ⊢
  refine Con.walk good fn_ref_ReadyNodes (by simp) ?_
  unfold s_ref_ReadyNodes
  simp only [stD,stK]
  simp only [argsE]
  repeat' (first|(with_reducible first|refine Wx.h ?_|refine Wb.h fun K hK=>?_|(refine hK _ ?_;clear hK K)|(refine wT ?_ ?_;· assumption)|(refine wF ?_ ?_;· assumption))|((with_reducible refine kQ ?_ ?_);kernel_rfl)|((with_reducible refine k1 ?_ ?_);rfl)|((with_reducible refine k0 ?_ ?_);rfl)|((with_reducible apply kB)<;>first|rfl|intro h)|((with_reducible refine kM ?_ ?_);rfl)|(with_reducible refine Wq.h ?_ ?_)<;>intro h<;>try (exfalso;omega)|(with_reducible refine Wu.h ?_ ?_)<;>intro h<;>try simp only [h]|((fail_if_success with_reducible refine Wz.h ?_);first|simp (disch:=omega) only [↓LD,LA,loadA_rf,seval,LSt]|((with_reducible refine And.intro ?_ ?_);omega)|simp only [D.int,D.bool]))
  all_goals try (refine end1 rfl rfl (by kernel_rfl) .nil ⟨congrArg D.f ?_,rfl⟩;first|(rw [readyR,if_pos (.inl (by assumption))];rfl)|(rw [readyR,if_pos (.inr (by assumption))];rfl))
  have hr : readyR ⟨id,ver,time,closed,cancel,defs,nodes,tms,sgs⟩ = (rdy (doneL nodes) 0 defs).filter (wtB nodes):=by
    rw [readyR,if_neg];simp_all
  refine HS.view (View.void 4) ?_
  refine HS.view (View.slot 3 (.sl 1 0 0) (.no (by show 1 < 1 + 1;omega))) ?_
  refine HS.loopG [1,3,4] (fun i : Nat=>⟨frm 60 [(1,.pt 0 0),(3,.sl 1 0 i),(4,D.int i)],[] ++ [stF ⟨id,ver,time,closed,cancel,defs,nodes,tms,sgs⟩,.data 4 ((doneL (nodes.take i)).map bF)],[]⟩)
    (fun i=>i ≤ nodes.length) (fun i=>nodes.length - i) 0 (by kernel_rfl) (Nat.zero_le _) ?_
  rintro i hi
  by_cases hil : i < nodes.length
  · have hdl:=done_len hi
    have hds:=done_step hil
    repeat' (first|(with_reducible first|refine Wx.h ?_|refine Wb.h fun K hK=>?_|(refine hK _ ?_;clear hK K)|(refine wT ?_ ?_;· assumption)|(refine wF ?_ ?_;· assumption))|((with_reducible refine kQ ?_ ?_);kernel_rfl)|((with_reducible refine k1 ?_ ?_);rfl)|((with_reducible refine k0 ?_ ?_);rfl)|((with_reducible apply kB)<;>first|rfl|intro h)|((with_reducible refine kM ?_ ?_);rfl)|(with_reducible refine Wq.h ?_ ?_)<;>intro h<;>try (exfalso;omega)|(with_reducible refine Wu.h ?_ ?_)<;>intro h<;>try simp only [h]|((fail_if_success with_reducible refine Wz.h ?_);first|simp (disch:=omega) only [↓LD,LA,loadA_rf,seval,LSt,stF,stK,rN,at0_fNn,len_fNn,Nn.cs,List.length_map,hdl,List.cons_append,List.nil_append]|((with_reducible refine And.intro ?_ ?_);omega)|simp only [D.int,D.bool]))
    all_goals
      first|rw [decide_eq_true (by assumption)] at hds|rw [decide_eq_false (by assumption)] at hds
      rw [app_b,hds]
      exact Next.mk (i + 1) (by kernel_rfl) (by omega) (by omega)
  obtain rfl : i = nodes.length:=by omega
  rw [List.take_length]
  have hdl : (doneL nodes).length = nodes.length:=by simp [doneL]
  refine HS.view (View.fzd 3 (k:=1) (b:=1) (z:=[.bool false]) rfl rfl (by kernel_rfl) (by simp [doneL]) (by omega) (by omega)) ?_
  rw [show F.s ((doneL nodes).map bF) nodes.length = fB (doneL nodes) by rw [fB,hdl]]
  repeat' (first|(with_reducible first|refine Wx.h ?_|refine Wb.h fun K hK=>?_|(refine hK _ ?_;clear hK K)|(refine wT ?_ ?_;· assumption)|(refine wF ?_ ?_;· assumption))|((with_reducible refine kQ ?_ ?_);kernel_rfl)|((with_reducible refine k1 ?_ ?_);rfl)|((with_reducible refine k0 ?_ ?_);rfl)|((with_reducible apply kB)<;>first|rfl|intro h)|((with_reducible refine kM ?_ ?_);rfl)|(with_reducible refine Wq.h ?_ ?_)<;>intro h<;>try (exfalso;omega)|(with_reducible refine Wu.h ?_ ?_)<;>intro h<;>try simp only [h]|((fail_if_success with_reducible refine Wz.h ?_);first|simp (disch:=omega) only [↓LD,LA,loadA_rf,seval,LSt,stF,stK,List.cons_append,List.nil_append]|((with_reducible refine And.intro ?_ ?_);omega)|simp only [D.int,D.bool]))
  refine callW_pure (c_ref_Ready defs (doneL nodes) hf hp (by rw [hdl];omega)) rfl rfl rfl ?_
  repeat' (first|(with_reducible first|refine Wx.h ?_|refine Wb.h fun K hK=>?_|(refine hK _ ?_;clear hK K)|(refine wT ?_ ?_;· assumption)|(refine wF ?_ ?_;· assumption))|((with_reducible refine kQ ?_ ?_);kernel_rfl)|((with_reducible refine k1 ?_ ?_);rfl)|((with_reducible refine k0 ?_ ?_);rfl)|((with_reducible apply kB)<;>first|rfl|intro h)|((with_reducible refine kM ?_ ?_);rfl)|(with_reducible refine Wq.h ?_ ?_)<;>intro h<;>try (exfalso;omega)|(with_reducible refine Wu.h ?_ ?_)<;>intro h<;>try simp only [h]|((fail_if_success with_reducible refine Wz.h ?_);first|simp (disch:=omega) only [↓LD,LA,loadA_rf,seval,LSt,stF,stK,List.cons_append,List.nil_append]|((with_reducible refine And.intro ?_ ?_);omega)|simp only [D.int,D.bool]))
  have hpos : ∀ x ∈ rdy (doneL nodes) 0 defs,0 ≤ x ∧ x < nodes.length:=fun x hx=>⟨by have:=rdy_pos hx;omega,by have:=rdy_lt hx;omega⟩
  have hlen : (rdy (doneL nodes) 0 defs).length < 1000:=Nat.lt_of_le_of_lt (rdy_len 0 defs) hf.1
  generalize rdy (doneL nodes) 0 defs = L at *
  refine HS.view (View.void 3) ?_
  refine HS.view (View.slot 5 (.sl 2 0 0) (.no (by show 2 < 2 + 1;omega))) ?_
  refine HS.loopG [1,5,6,7] (fun x : Nat × List Int=>⟨frm 60 [(1,.pt 0 0),(5,.sl 1 0 x.2.length),(6,.f (fI L)),(7,D.int x.1)],[] ++ [stF ⟨id,ver,time,closed,cancel,defs,nodes,tms,sgs⟩,.data 3 (x.2.map iF)],[]⟩)
    (fun x=>x.1 ≤ L.length ∧ x.2.length ≤ x.1 ∧ L.filter (wtB nodes) = x.2 ++ (L.drop x.1).filter (wtB nodes)) (fun x=>L.length - x.1) (0,[]) (by kernel_rfl) ⟨Nat.zero_le _,Nat.le_refl _,rfl⟩ ?_
  rintro ⟨i,out⟩ ⟨hi,ho,hF⟩
  dsimp only at hi ho hF
  by_cases hil : i < L.length
  · obtain ⟨hp1,hp2⟩:=hpos _ (gt_mem hil)
    rw [drop_gt hil] at hF
    repeat' (first|(with_reducible first|refine Wx.h ?_|refine We.h fun K hK=>?_|refine Wd.h fun K M hK hM=>?_|(refine hK _ _ _ _ ?_;clear hK K;try clear hM M)|(refine hM ?_;clear hM M;try clear hK K)|refine Wb.h fun K hK=>?_|(refine hK _ ?_;clear hK K)|(refine wT ?_ ?_;· assumption)|(refine wF ?_ ?_;· assumption))|((with_reducible refine kQ ?_ ?_);kernel_rfl)|((with_reducible refine k1 ?_ ?_);rfl)|((with_reducible refine k0 ?_ ?_);rfl)|((with_reducible apply kB)<;>first|rfl|intro h)|((with_reducible refine kM ?_ ?_);rfl)|(with_reducible refine Wq.h ?_ ?_)<;>intro h<;>try (exfalso;omega)|(with_reducible refine Wu.h ?_ ?_)<;>intro h<;>try simp only [h]|((fail_if_success with_reducible refine Wz.h ?_);first|simp (disch:=omega) only [↓LD,LA,loadA_rf,seval,LSt,stF,stK,rN,at0_fNn,len_fNn,Nn.cs,List.cons_append,List.nil_append]|((with_reducible refine And.intro ?_ ?_);omega)|simp only [D.int,D.bool]))
    all_goals first
      | (have hw : wtB nodes (gt L i) = true:=by unfold wtB;rw [decide_eq_true hp2,decide_eq_true (by assumption)];rfl
         rw [List.filter_cons_of_pos hw] at hF
         rw [show out.length + 1 = (out ++ [gt L i]).length by simp]
         exact Next.mk (i + 1,out ++ [gt L i]) (by kernel_rfl) ⟨by dsimp only;omega,by simp;omega,by dsimp only;rw [hF];simp⟩ (by dsimp only;omega))
      | (have hw : ¬ wtB nodes (gt L i) = true:=by unfold wtB;rw [decide_eq_false (p:=(gt nodes (gt L i).toNat).st = 0) (by assumption)];simp
         rw [List.filter_cons_of_neg hw] at hF
         exact Next.mk (i + 1,out) (by kernel_rfl) ⟨by dsimp only;omega,by dsimp only;omega,hF⟩ (by dsimp only;omega))
  · repeat' (first|(with_reducible first|refine Wx.h ?_|refine Wb.h fun K hK=>?_|(refine hK _ ?_;clear hK K)|(refine wT ?_ ?_;· assumption)|(refine wF ?_ ?_;· assumption))|((with_reducible refine kQ ?_ ?_);kernel_rfl)|((with_reducible refine k1 ?_ ?_);rfl)|((with_reducible refine k0 ?_ ?_);rfl)|((with_reducible apply kB)<;>first|rfl|intro h)|((with_reducible refine kM ?_ ?_);rfl)|(with_reducible refine Wq.h ?_ ?_)<;>intro h<;>try (exfalso;omega)|(with_reducible refine Wu.h ?_ ?_)<;>intro h<;>try simp only [h]|((fail_if_success with_reducible refine Wz.h ?_);first|simp (disch:=omega) only [↓LD,LA,loadA_rf,seval,stF,stK,List.cons_append,List.nil_append]|((with_reducible refine And.intro ?_ ?_);omega)|simp only [D.int,D.bool]))
    refine end1 rfl rfl (by kernel_rfl) (.sl (T:=3) (xs:=out.map iF) rfl (fun e=>by rw [List.eq_nil_of_length_eq_zero e];rfl)) ⟨?_,rfl⟩
    rw [hr,hF,show L.drop i = [] from List.drop_of_length_le (by omega),List.filter_nil,List.append_nil];rfl
theorem c_ref_ReadyNodesL (s : S12) (hf : Fit s.defs) (hp : Pos s.defs) (hl : s.nodes.length ≤ 1000000) (hnd : s.nodes.length = s.defs.length) : Con Tryz.prog 58 [.ag (stK 0 s)] [rN s.nodes] fun r H'=>r = .f (fI (readyR s)) ∧ H' = [rN s.nodes]:=by
  obtain ⟨id,ver,time,closed,cancel,defs,nodes,tms,sgs⟩:=s
  dsimp only at hf hl hp hnd ⊢
  refine Con.walk good fn_ref_ReadyNodes (by simp) ?_
  unfold s_ref_ReadyNodes
  simp only [stD,stK]
  simp only [argsE]
  repeat' (first|(with_reducible first|refine Wx.h ?_|refine Wb.h fun K hK=>?_|(refine hK _ ?_;clear hK K)|(refine wT ?_ ?_;· assumption)|(refine wF ?_ ?_;· assumption))|((with_reducible refine kQ ?_ ?_);kernel_rfl)|((with_reducible refine k1 ?_ ?_);rfl)|((with_reducible refine k0 ?_ ?_);rfl)|((with_reducible apply kB)<;>first|rfl|intro h)|((with_reducible refine kM ?_ ?_);rfl)|(with_reducible refine Wq.h ?_ ?_)<;>intro h<;>try (exfalso;omega)|(with_reducible refine Wu.h ?_ ?_)<;>intro h<;>try simp only [h]|((fail_if_success with_reducible refine Wz.h ?_);first|simp (disch:=omega) only [↓LD,LA,loadA_rf,seval,LSt]|((with_reducible refine And.intro ?_ ?_);omega)|simp only [D.int,D.bool]))
  all_goals try (refine end1 rfl rfl (by kernel_rfl) .nil ⟨congrArg D.f ?_,rfl⟩;first|(rw [readyR,if_pos (.inl (by assumption))];rfl)|(rw [readyR,if_pos (.inr (by assumption))];rfl))
  have hr : readyR ⟨id,ver,time,closed,cancel,defs,nodes,tms,sgs⟩ = (rdy (doneL nodes) 0 defs).filter (wtB nodes):=by
    rw [readyR,if_neg];simp_all
  refine HS.view (View.void 4) ?_
  refine HS.view (View.slot 3 (.sl 2 0 0) (.no (by show 2 < 2 + 1;omega))) ?_
  refine HS.loopG [1,3,4] (fun i : Nat=>⟨frm 60 [(1,.pt 1 0),(3,.sl 2 0 i),(4,D.int i)],[rN nodes] ++ [.box 29 (stK 0 ⟨id,ver,time,closed,cancel,defs,nodes,tms,sgs⟩),.data 4 ((doneL (nodes.take i)).map bF)],[]⟩)
    (fun i=>i ≤ nodes.length) (fun i=>nodes.length - i) 0 (by kernel_rfl) (Nat.zero_le _) ?_
  rintro i hi
  by_cases hil : i < nodes.length
  · have hdl:=done_len hi
    have hds:=done_step hil
    repeat' (first|(with_reducible first|refine Wx.h ?_|refine Wb.h fun K hK=>?_|(refine hK _ ?_;clear hK K)|(refine wT ?_ ?_;· assumption)|(refine wF ?_ ?_;· assumption))|((with_reducible refine kQ ?_ ?_);kernel_rfl)|((with_reducible refine k1 ?_ ?_);rfl)|((with_reducible refine k0 ?_ ?_);rfl)|((with_reducible apply kB)<;>first|rfl|intro h)|((with_reducible refine kM ?_ ?_);rfl)|(with_reducible refine Wq.h ?_ ?_)<;>intro h<;>try (exfalso;omega)|(with_reducible refine Wu.h ?_ ?_)<;>intro h<;>try simp only [h]|((fail_if_success with_reducible refine Wz.h ?_);first|simp (disch:=omega) only [↓LD,LA,loadA_rf,seval,LSt,stF,stK,rN,at0_fNn,len_fNn,Nn.cs,List.length_map,hdl,List.cons_append,List.nil_append]|((with_reducible refine And.intro ?_ ?_);omega)|simp only [D.int,D.bool]))
    all_goals
      first|rw [decide_eq_true (by assumption)] at hds|rw [decide_eq_false (by assumption)] at hds
      rw [app_b,hds]
      exact Next.mk (i + 1) (by kernel_rfl) (by omega) (by omega)
  obtain rfl : i = nodes.length:=by omega
  rw [List.take_length]
  have hdl : (doneL nodes).length = nodes.length:=by simp [doneL]
  refine HS.view (View.fzd 3 (k:=1) (b:=1) (z:=[.bool false]) rfl rfl (by kernel_rfl) (by simp [doneL]) (by omega) (by omega)) ?_
  rw [show F.s ((doneL nodes).map bF) nodes.length = fB (doneL nodes) by rw [fB,hdl]]
  repeat' (first|(with_reducible first|refine Wx.h ?_|refine Wb.h fun K hK=>?_|(refine hK _ ?_;clear hK K)|(refine wT ?_ ?_;· assumption)|(refine wF ?_ ?_;· assumption))|((with_reducible refine kQ ?_ ?_);kernel_rfl)|((with_reducible refine k1 ?_ ?_);rfl)|((with_reducible refine k0 ?_ ?_);rfl)|((with_reducible apply kB)<;>first|rfl|intro h)|((with_reducible refine kM ?_ ?_);rfl)|(with_reducible refine Wq.h ?_ ?_)<;>intro h<;>try (exfalso;omega)|(with_reducible refine Wu.h ?_ ?_)<;>intro h<;>try simp only [h]|((fail_if_success with_reducible refine Wz.h ?_);first|simp (disch:=omega) only [↓LD,LA,loadA_rf,seval,LSt,stF,stK,List.cons_append,List.nil_append]|((with_reducible refine And.intro ?_ ?_);omega)|simp only [D.int,D.bool]))
  refine callW_pure (c_ref_Ready defs (doneL nodes) hf hp (by rw [hdl];omega)) rfl rfl rfl ?_
  repeat' (first|(with_reducible first|refine Wx.h ?_|refine Wb.h fun K hK=>?_|(refine hK _ ?_;clear hK K)|(refine wT ?_ ?_;· assumption)|(refine wF ?_ ?_;· assumption))|((with_reducible refine kQ ?_ ?_);kernel_rfl)|((with_reducible refine k1 ?_ ?_);rfl)|((with_reducible refine k0 ?_ ?_);rfl)|((with_reducible apply kB)<;>first|rfl|intro h)|((with_reducible refine kM ?_ ?_);rfl)|(with_reducible refine Wq.h ?_ ?_)<;>intro h<;>try (exfalso;omega)|(with_reducible refine Wu.h ?_ ?_)<;>intro h<;>try simp only [h]|((fail_if_success with_reducible refine Wz.h ?_);first|simp (disch:=omega) only [↓LD,LA,loadA_rf,seval,LSt,stF,stK,List.cons_append,List.nil_append]|((with_reducible refine And.intro ?_ ?_);omega)|simp only [D.int,D.bool]))
  have hpos : ∀ x ∈ rdy (doneL nodes) 0 defs,0 ≤ x ∧ x < nodes.length:=fun x hx=>⟨by have:=rdy_pos hx;omega,by have:=rdy_lt hx;omega⟩
  have hlen : (rdy (doneL nodes) 0 defs).length < 1000:=Nat.lt_of_le_of_lt (rdy_len 0 defs) hf.1
  generalize rdy (doneL nodes) 0 defs = L at *
  refine HS.view (View.void 3) ?_
  refine HS.view (View.slot 5 (.sl 3 0 0) (.no (by show 3 < 3 + 1;omega))) ?_
  refine HS.loopG [1,5,6,7] (fun x : Nat × List Int=>⟨frm 60 [(1,.pt 1 0),(5,.sl 2 0 x.2.length),(6,.f (fI L)),(7,D.int x.1)],[rN nodes] ++ [.box 29 (stK 0 ⟨id,ver,time,closed,cancel,defs,nodes,tms,sgs⟩),.data 3 (x.2.map iF)],[]⟩)
    (fun x=>x.1 ≤ L.length ∧ x.2.length ≤ x.1 ∧ L.filter (wtB nodes) = x.2 ++ (L.drop x.1).filter (wtB nodes)) (fun x=>L.length - x.1) (0,[]) (by kernel_rfl) ⟨Nat.zero_le _,Nat.le_refl _,rfl⟩ ?_
  rintro ⟨i,out⟩ ⟨hi,ho,hF⟩
  dsimp only at hi ho hF
  by_cases hil : i < L.length
  · obtain ⟨hp1,hp2⟩:=hpos _ (gt_mem hil)
    rw [drop_gt hil] at hF
    repeat' (first|(with_reducible first|refine Wx.h ?_|refine We.h fun K hK=>?_|refine Wd.h fun K M hK hM=>?_|(refine hK _ _ _ _ ?_;clear hK K;try clear hM M)|(refine hM ?_;clear hM M;try clear hK K)|refine Wb.h fun K hK=>?_|(refine hK _ ?_;clear hK K)|(refine wT ?_ ?_;· assumption)|(refine wF ?_ ?_;· assumption))|((with_reducible refine kQ ?_ ?_);kernel_rfl)|((with_reducible refine k1 ?_ ?_);rfl)|((with_reducible refine k0 ?_ ?_);rfl)|((with_reducible apply kB)<;>first|rfl|intro h)|((with_reducible refine kM ?_ ?_);rfl)|(with_reducible refine Wq.h ?_ ?_)<;>intro h<;>try (exfalso;omega)|(with_reducible refine Wu.h ?_ ?_)<;>intro h<;>try simp only [h]|((fail_if_success with_reducible refine Wz.h ?_);first|simp (disch:=omega) only [↓LD,LA,loadA_rf,seval,LSt,stF,stK,rN,at0_fNn,len_fNn,Nn.cs,List.cons_append,List.nil_append]|((with_reducible refine And.intro ?_ ?_);omega)|simp only [D.int,D.bool]))
    all_goals first
      | (have hw : wtB nodes (gt L i) = true:=by unfold wtB;rw [decide_eq_true hp2,decide_eq_true (by assumption)];rfl
         rw [List.filter_cons_of_pos hw] at hF
         rw [show out.length + 1 = (out ++ [gt L i]).length by simp]
         exact Next.mk (i + 1,out ++ [gt L i]) (by kernel_rfl) ⟨by dsimp only;omega,by simp;omega,by dsimp only;rw [hF];simp⟩ (by dsimp only;omega))
      | (have hw : ¬ wtB nodes (gt L i) = true:=by unfold wtB;rw [decide_eq_false (p:=(gt nodes (gt L i).toNat).st = 0) (by assumption)];simp
         rw [List.filter_cons_of_neg hw] at hF
         exact Next.mk (i + 1,out) (by kernel_rfl) ⟨by dsimp only;omega,by dsimp only;omega,hF⟩ (by dsimp only;omega))
  · repeat' (first|(with_reducible first|refine Wx.h ?_|refine Wb.h fun K hK=>?_|(refine hK _ ?_;clear hK K)|(refine wT ?_ ?_;· assumption)|(refine wF ?_ ?_;· assumption))|((with_reducible refine kQ ?_ ?_);kernel_rfl)|((with_reducible refine k1 ?_ ?_);rfl)|((with_reducible refine k0 ?_ ?_);rfl)|((with_reducible apply kB)<;>first|rfl|intro h)|((with_reducible refine kM ?_ ?_);rfl)|(with_reducible refine Wq.h ?_ ?_)<;>intro h<;>try (exfalso;omega)|(with_reducible refine Wu.h ?_ ?_)<;>intro h<;>try simp only [h]|((fail_if_success with_reducible refine Wz.h ?_);first|simp (disch:=omega) only [↓LD,LA,loadA_rf,seval,stF,stK,List.cons_append,List.nil_append]|((with_reducible refine And.intro ?_ ?_);omega)|simp only [D.int,D.bool]))
    refine end1 rfl rfl (by kernel_rfl) (.sl (T:=3) (xs:=out.map iF) rfl (fun e=>by rw [List.eq_nil_of_length_eq_zero e];rfl)) ⟨?_,rfl⟩
    rw [hr,hF,show L.drop i = [] from List.drop_of_length_le (by omega),List.filter_nil,List.append_nil];rfl
set_option maxHeartbeats 4000000
instance {id ver time closed : Int} {cancel : Bool} {defs : List Nd} {nodes : List Nn} {tms : List Tm} {sgs : List Sg} {k : Int} {H : List Row} {K : D → List Row → Prop} : Wa (callW Tryz.prog (.fn 32 []) [.ag [.f (.v (.int .i64 id)),.f (.v (.int .i64 ver)),.f (.v (.int .i64 time)),.f (.v (.int .i64 closed)),.f (.v (.bool cancel)),.f (fG defs),.f (fNn nodes),.f (fTm tms),.f (fSg sgs)],.f (.v (.int .i64 k))] H K)
    (nodes.length ≤ 1000000 ∧ K (.f (.v (.int .i64 (cntL nodes k)))) H):=⟨fun h=>callW_pure (c_ref_count ⟨id,ver,time,closed,cancel,defs,nodes,tms,sgs⟩ k h.1) rfl rfl rfl h.2⟩
instance {id ver time closed : Int} {cancel : Bool} {defs : List Nd} {nodes : List Nn} {tms : List Tm} {sgs : List Sg} {k : Int} {H : List Row} {K : Bool → D → List Row → Prop} : Wa (callDr Tryz.prog (.fn 32 []) [.ag [.f (.v (.int .i64 id)),.f (.v (.int .i64 ver)),.f (.v (.int .i64 time)),.f (.v (.int .i64 closed)),.f (.v (.bool cancel)),.f (fG defs),.f (fNn nodes),.f (fTm tms),.f (fSg sgs)],.f (.v (.int .i64 k))] H K)
    (nodes.length ≤ 1000000 ∧ K true (.f (.v (.int .i64 (cntL nodes k)))) H):=⟨fun h=>callDr_pure (c_ref_count ⟨id,ver,time,closed,cancel,defs,nodes,tms,sgs⟩ k h.1) rfl rfl rfl h.2⟩
set_option maxRecDepth 100000 in
theorem c_ref_Ending (s : S12) (hl : s.nodes.length ≤ 1000000) : Con Tryz.prog 97 [stD s] [] fun r H'=>r = D.int (endingL s) ∧ H' = []:=by
  obtain ⟨id,ver,time,closed,cancel,defs,nodes,tms,sgs⟩:=s
  dsimp only at hl
  refine Con.walk good fn_ref_Ending (by simp) ?_
  unfold s_ref_Ending
  simp only [argsE,stD]
  cases cancel
  all_goals
    repeat' (first|(with_reducible first|refine Wx.h ?_|refine We.h fun K hK=>?_|refine Wd.h fun K M hK hM=>?_|(refine hK _ _ _ _ ?_;clear hK K;try clear hM M)|(refine hM ?_;clear hM M;try clear hK K)|refine Wb.h fun K hK=>?_|(refine hK _ ?_;clear hK K)|(refine wT ?_ ?_;· assumption)|(refine wF ?_ ?_;· assumption))|((with_reducible refine kQ ?_ ?_);kernel_rfl)|((with_reducible refine k1 ?_ ?_);rfl)|((with_reducible refine k0 ?_ ?_);rfl)|((with_reducible apply kB)<;>first|rfl|intro h)|((with_reducible refine kM ?_ ?_);rfl)|(with_reducible refine Wq.h ?_ ?_)<;>intro h<;>try (exfalso;omega)|(with_reducible refine Wu.h ?_ ?_)<;>intro h<;>try simp only [h]|((fail_if_success with_reducible refine Wz.h ?_);first|simp (disch:=omega) only [↓LD,LA,loadA_rf,seval,LSt]|((with_reducible refine And.intro ?_ ?_);omega)|simp only [D.int,D.bool]))
  all_goals (refine end1 rfl rfl (by kernel_rfl) .f ⟨congrArg D.int ?_,rfl⟩;simp only [endingL])
  all_goals (repeat' split)<;>(try simp only [true_and,false_and,Bool.false_eq_true,not_false_eq_true,not_true_eq_false,ne_eq] at *)<;>omega
theorem freezeAll_f {P : Program} {H : List Row} : ∀ ys : List F,freezeAll P H (ys.map .f) = some (ys,[])
  | []=>rfl
  | y :: ys=>by simp only [List.map_cons,freezeAll,freeze1,freezeAll_f ys,List.append_nil]
theorem store_agn {P : Program} {H : List Row} {n r off : Nat} {ys : List F} {U : TypeId} {xs : List F} (hn : ys.length = n) (h0 : 0 < n) : storeR P H n r off (.ag (ys.map .f)) (some (.data U xs)) = if off + n ≤ xs.length then (match H[r]? with|some (.data V ws)=>some (H.set r (.data V (splice ws off ys)))|_=>none) else none:=by
  have h1 : (D.ag (ys.map .f)).cells = ys.map .f:=rfl
  unfold storeR
  dsimp only
  rw [h1,List.length_map,freezeAll_f]
  by_cases h : off + n ≤ xs.length
  · rw [if_pos ⟨rfl,hn,h,h0⟩,if_pos h];rfl
  · rw [if_neg (fun e=>h e.2.2.1),if_neg h]
theorem store_ag4 {P : Program} {H : List Row} {r off : Nat} {a b c d : F} {U : TypeId} {xs : List F} : storeR P H 4 r off (.ag [.f a,.f b,.f c,.f d]) (some (.data U xs)) = if off + 4 ≤ xs.length then (match H[r]? with|some (.data V ws)=>some (H.set r (.data V (splice ws off [a,b,c,d])))|_=>none) else none:=store_agn (ys:=[a,b,c,d]) rfl (by omega)
theorem flat_splice {α : Type} {cs : α → List F} {n : Nat} (hn : ∀ x,(cs x).length = n) {y : α} : ∀ {l : List α} {k : Nat},k < l.length → splice (l.flatMap cs) (k * n) (cs y) = (l.set k y).flatMap cs
  | [],k,hk=>by simp at hk
  | a :: l,0,_=>by
    unfold splice
    rw [List.set_cons_zero,List.flatMap_cons,List.flatMap_cons,Nat.zero_mul,Nat.zero_add,List.take_zero,List.nil_append,hn,List.drop_left' (hn a)]
  | a :: l,k + 1,hk=>by
    have ih:=flat_splice hn (y:=y) (l:=l) (k:=k) (by simpa using hk)
    unfold splice at ih ⊢
    rw [List.set_cons_succ,List.flatMap_cons,List.flatMap_cons,← ih,Nat.add_mul,Nat.one_mul,Nat.add_comm (k * n) n,Nat.add_assoc,← List.append_assoc,← List.append_assoc]
    rw [← hn a,List.take_length_add_append,← List.drop_drop,List.drop_left,List.append_assoc,List.append_assoc]
theorem splice_Nn {l : List Nn} {k : Nat} {a b c : Int} {d : Bs} (hk : k < l.length) : splice (l.flatMap Nn.cs) (k * 4) [.v (.int .i64 a),.v (.int .i64 b),.v (.int .i64 c),fY d] = (l.set k ⟨a,b,c,d⟩).flatMap Nn.cs:=flat_splice cs_Nn (y:=⟨a,b,c,d⟩) hk
theorem splice_rel {xs ys zs : List F} {off : Nat} {R : F → F → Prop} (hr : ∀ x,R x x) (hl : ys.length = zs.length) (h : ∀ (i : Nat) (x y : F),ys[i]? = some x → zs[i]? = some y → R x y) :
    ∀ (i : Nat) (x y : F),(splice xs off ys)[i]? = some x → (splice xs off zs)[i]? = some y → R x y:=by
  intro i x y hx hy
  unfold splice at hx hy
  rw [hl,List.append_assoc] at hx
  rw [List.append_assoc] at hy
  by_cases h1 : i < (xs.take off).length
  · rw [List.getElem?_append_left h1] at hx hy
    rw [hx] at hy;cases hy;exact hr _
  · rw [List.getElem?_append_right (by omega)] at hx hy
    by_cases h2 : i - (xs.take off).length < zs.length
    · rw [List.getElem?_append_left (by omega)] at hx
      rw [List.getElem?_append_left h2] at hy
      exact h _ _ _ hx hy
    · rw [List.getElem?_append_right (by omega)] at hx hy
      rw [hl,] at hx
      rw [hx] at hy;cases hy;exact hr _
theorem splice_nil {l : List Nn} {k : Nat} {a b c : Int} (hk : k < l.length) : (((l.set k ⟨a,b,c,[]⟩).flatMap Nn.cs).length = (splice (l.flatMap Nn.cs) (k * 4) [.v (.int .i64 a),.v (.int .i64 b),.v (.int .i64 c),.v (.slice none 0 0)]).length) ∧
    ∀ (i : Nat) (x y : F),(splice (l.flatMap Nn.cs) (k * 4) [.v (.int .i64 a),.v (.int .i64 b),.v (.int .i64 c),.v (.slice none 0 0)])[i]? = some x → ((l.set k ⟨a,b,c,[]⟩).flatMap Nn.cs)[i]? = some y → x = y ∨ (x = .v (.slice none 0 0) ∧ y = .s [] 0):=by
  rw [← splice_Nn hk]
  refine ⟨by simp [splice],splice_rel (fun _=>.inl rfl) rfl ?_⟩
  intro i x y hx hy
  rcases i with _|_|_|_|i
  all_goals (simp at hx hy;try (subst hx;subst hy;first|exact .inl rfl|exact .inr ⟨rfl,rfl⟩))
def nodeR (s : S12) (e : Ev) : Int × S12 :=
  if (s.nodes.length : Int) ≤ e.node then (1,s)
  else if e.ty = 2 then
    (if e.node ∉ readyR s ∨ e.n ≠ (gt s.nodes e.node.toNat).tr + 1 then (4,s)
     else (0,{ s with nodes:=s.nodes.set e.node.toNat ⟨1,e.n,e.time + (gt s.defs e.node.toNat).le,[]⟩ }))
  else if (gt s.nodes e.node.toNat).st ≠ 1 ∨ e.n ≠ (gt s.nodes e.node.toNat).tr then (4,s)
  else (0,{ s with nodes:=s.nodes.set e.node.toNat (if e.ty = 3 then { gt s.nodes e.node.toNat with st:=2,due:=0,data:=e.data } else if (gt s.nodes e.node.toNat).tr = (gt s.defs e.node.toNat).tr then { gt s.nodes e.node.toNat with st:=3,due:=0 } else { gt s.nodes e.node.toNat with st:=0,due:=0 }) })
set_option maxRecDepth 100000 in
theorem c_ref_applyNode (s : S12) (e : Ev) (hn : Num s e) (h0 : 0 ≤ e.node) (hf : Fit s.defs) (hp : Pos s.defs) (hl : s.nodes.length ≤ 1000000) (hnd : s.nodes.length = s.defs.length) :
    Con Tryz.prog 29 [.pt 0 0,evD e] [.box 29 (stK 1 s),rN s.nodes] fun r H'=>r = D.int (nodeR s e).1 ∧ H' = [.box 29 (stK 1 (nodeR s e).2),rN (nodeR s e).2.nodes]:=by
  obtain ⟨id,ver,time,closed,cancel,defs,nodes,tms,sgs⟩:=s
  obtain ⟨hn1,hn2,hn3⟩:=hn
  dsimp only at hn1 hn2 hn3 hf hl hp hnd
  have hfl:=hf.1
  suffices hh : ∀ Q : D → List Row → Prop,(∀ r H',r = D.int (nodeR ⟨id,ver,time,closed,cancel,defs,nodes,tms,sgs⟩ e).1 → H' = [.box 29 (stK 1 (nodeR ⟨id,ver,time,closed,cancel,defs,nodes,tms,sgs⟩ e).2),rN (nodeR ⟨id,ver,time,closed,cancel,defs,nodes,tms,sgs⟩ e).2.nodes] → Q r H') → Con Tryz.prog 29 [.pt 0 0,evD e] [.box 29 (stK 1 ⟨id,ver,time,closed,cancel,defs,nodes,tms,sgs⟩),rN nodes] Q from hh _ fun _ _ h1 h2=>⟨h1,h2⟩
  intro Q hQ
  refine Con.walk good fn_ref_applyNode (by simp) ?_
  unfold s_ref_applyNode
  simp only [argsE,evD,stK,rN]
  repeat' (first|(with_reducible first|refine Wx.h ?_|refine We.h fun K hK=>?_|refine Wd.h fun K M hK hM=>?_|(refine hK _ _ _ _ ?_;clear hK K;try clear hM M)|(refine hM ?_;clear hM M;try clear hK K)|refine Wb.h fun K hK=>?_|(refine hK _ ?_;clear hK K)|(refine wT ?_ ?_;· assumption)|(refine wF ?_ ?_;· assumption))|((with_reducible refine kQ ?_ ?_);kernel_rfl)|((with_reducible refine k1 ?_ ?_);rfl)|((with_reducible refine k0 ?_ ?_);rfl)|((with_reducible apply kB)<;>first|rfl|intro h)|((with_reducible refine kM ?_ ?_);rfl)|(with_reducible refine Wq.h ?_ ?_)<;>intro h<;>try (exfalso;omega)|(with_reducible refine Wu.h ?_ ?_)<;>intro h<;>try simp only [h]|((fail_if_success with_reducible refine Wz.h ?_);first|simp (disch:=omega) only [↓LD,LA,loadA_rf,seval,LSt,load_fNn,take_fNn,Nn.cs,len_fNn,store_ag4,splice_Nn,nd_at1,nd_cs,List.length_set]|((with_reducible refine And.intro ?_ ?_);omega)|simp only [D.int,D.bool]))
  · have hb : nodeR ⟨id,ver,time,closed,cancel,defs,nodes,tms,sgs⟩ e = (1,⟨id,ver,time,closed,cancel,defs,nodes,tms,sgs⟩):=by
      unfold nodeR;rw [if_pos (by assumption)]
    rw [hb] at hQ
    exact end1 rfl rfl (by kernel_rfl) .f (hQ _ _ rfl rfl)
  · refine callW_emb (c_ref_ReadyNodesL ⟨id,ver,time,closed,cancel,defs,nodes,tms,sgs⟩ hf hp hl hnd) [1] (by kernel_rfl) rfl rfl ?_
    rintro _ _ ⟨rfl,rfl⟩
    simp (disch:=omega) only [↓LD,LA,loadA_rf,seval,ren,List.getElem?_nil,stK,rN]
    have hb : nodeR ⟨id,ver,time,closed,cancel,defs,nodes,tms,sgs⟩ e = (if e.node ∉ readyR ⟨id,ver,time,closed,cancel,defs,nodes,tms,sgs⟩ ∨ e.n ≠ (gt nodes e.node.toNat).tr + 1 then (4,⟨id,ver,time,closed,cancel,defs,nodes,tms,sgs⟩) else (0,⟨id,ver,time,closed,cancel,defs,nodes.set e.node.toNat ⟨1,e.n,e.time + (gt defs e.node.toNat).le,[]⟩,tms,sgs⟩)):=by
      unfold nodeR;rw [if_neg (by assumption),if_pos (by assumption)]
    rw [hb] at hQ
    clear hb
    have hrl : (readyR ⟨id,ver,time,closed,cancel,defs,nodes,tms,sgs⟩).length < 1000:=by
      unfold readyR;split
      · simp
      · exact Nat.lt_of_le_of_lt (Nat.le_trans (List.length_filter_le _ _) (rdy_len 0 defs)) hf.1
    have hnl : e.node.toNat < nodes.length:=by omega
    have hdl : e.node.toNat < defs.length:=by omega
    have hb1:=hn2 _ (gt_mem hdl)
    have hb2:=hn3 _ (gt_mem hnl)
    generalize readyR ⟨id,ver,time,closed,cancel,defs,nodes,tms,sgs⟩ = L at *
    repeat' (first|(with_reducible first|refine Wx.h ?_|refine We.h fun K hK=>?_|refine Wd.h fun K M hK hM=>?_|(refine hK _ _ _ _ ?_;clear hK K;try clear hM M)|(refine hM ?_;clear hM M;try clear hK K)|refine Wb.h fun K hK=>?_|(refine hK _ ?_;clear hK K)|(refine wT ?_ ?_;· assumption)|(refine wF ?_ ?_;· assumption))|((with_reducible refine kQ ?_ ?_);kernel_rfl)|((with_reducible refine k1 ?_ ?_);rfl)|((with_reducible refine k0 ?_ ?_);rfl)|((with_reducible apply kB)<;>first|rfl|intro h)|((with_reducible refine kM ?_ ?_);rfl)|(with_reducible refine Wq.h ?_ ?_)<;>intro h<;>try (exfalso;omega)|(with_reducible refine Wu.h ?_ ?_)<;>intro h<;>try simp only [h]|((fail_if_success with_reducible refine Wz.h ?_);first|simp (disch:=omega) only [↓LD,LA,loadA_rf,seval,LSt,load_fNn,take_fNn,Nn.cs,len_fNn,store_ag4,splice_Nn,nd_at2,nd_cs,List.length_set]|((with_reducible refine And.intro ?_ ?_);omega)|simp only [D.int,D.bool]))
    refine HS.loopG [0,3,5,6,7,8] (fun i : Nat=>⟨frm 122 [(0,.pt 0 0),(3,.pt 2 0),(5,.pt 3 0),(6,D.bool (decide (e.node ∈ L.take i))),(7,.f (fI L)),(8,D.int i)],[.box 29 [D.int id,D.int ver,D.int time,D.int closed,D.bool cancel,.f (fG defs),.sl 1 0 nodes.length,.f (fTm tms),.f (fSg sgs)],.data 51 (nodes.flatMap Nn.cs),evB e,.box 51 ((gt nodes e.node.toNat).cs.map .f)],[]⟩)
      (fun i=>i ≤ L.length) (fun i=>L.length - i) 0 (by kernel_rfl) (Nat.zero_le _) ?_
    rintro i hi
    by_cases hil : i < L.length
    · have hst : decide (e.node ∈ L.take (i + 1)) = (decide (e.node ∈ L.take i) || decide (gt L i = e.node)):=by
        rw [List.take_succ_eq_append_getElem hil,← gt_eq hil]
        simp [eq_comm]
      cases hc : decide (e.node ∈ L.take i)
      all_goals
        rw [hc] at hst
        repeat' (first|(with_reducible first|refine Wx.h ?_|refine We.h fun K hK=>?_|refine Wd.h fun K M hK hM=>?_|(refine hK _ _ _ _ ?_;clear hK K;try clear hM M)|(refine hM ?_;clear hM M;try clear hK K)|refine Wb.h fun K hK=>?_|(refine hK _ ?_;clear hK K)|(refine wT ?_ ?_;· assumption)|(refine wF ?_ ?_;· assumption))|((with_reducible refine kQ ?_ ?_);kernel_rfl)|((with_reducible refine k1 ?_ ?_);rfl)|((with_reducible refine k0 ?_ ?_);rfl)|((with_reducible apply kB)<;>first|rfl|intro h)|((with_reducible refine kM ?_ ?_);rfl)|(with_reducible refine Wq.h ?_ ?_)<;>intro h<;>try (exfalso;omega)|(with_reducible refine Wu.h ?_ ?_)<;>intro h<;>try simp only [h]|((fail_if_success with_reducible refine Wz.h ?_);first|simp (disch:=omega) only [↓LD,LA,loadA_rf,seval,evB,Nn.cs,List.map_cons,List.map_nil]|((with_reducible refine And.intro ?_ ?_);omega)|simp only [D.int,D.bool]))
        all_goals exact Next.mk (i + 1) (by rw [hst];(try simp only [decide_eq_true (show gt L i = e.node by assumption)]);(try simp only [decide_eq_false (show ¬ gt L i = e.node by assumption)]);kernel_rfl) (by omega) (by omega)
    have hbt : L.take i = L:=List.take_of_length_le (by omega)
    rw [hbt]
    by_cases hm : e.node ∈ L
    rotate_left
    · rw [decide_eq_false hm]
      repeat' (first|(with_reducible first|refine Wx.h ?_|refine We.h fun K hK=>?_|refine Wd.h fun K M hK hM=>?_|(refine hK _ _ _ _ ?_;clear hK K;try clear hM M)|(refine hM ?_;clear hM M;try clear hK K)|refine Wb.h fun K hK=>?_|(refine hK _ ?_;clear hK K)|(refine wT ?_ ?_;· assumption)|(refine wF ?_ ?_;· assumption))|((with_reducible refine kQ ?_ ?_);kernel_rfl)|((with_reducible refine k1 ?_ ?_);rfl)|((with_reducible refine k0 ?_ ?_);rfl)|((with_reducible apply kB)<;>first|rfl|intro h)|((with_reducible refine kM ?_ ?_);rfl)|(with_reducible refine Wq.h ?_ ?_)<;>intro h<;>try (exfalso;omega)|(with_reducible refine Wu.h ?_ ?_)<;>intro h<;>try simp only [h]|((fail_if_success with_reducible refine Wz.h ?_);first|simp (disch:=omega) only [↓LD,LA,loadA_rf,seval,evB,Nn.cs,List.map_cons,List.map_nil,LSt,load_fNn,take_fNn,Nn.cs,len_fNn,store_ag4,splice_Nn,nd_at2,nd_cs,List.length_set]|((with_reducible refine And.intro ?_ ?_);omega)|simp only [D.int,D.bool]))
      rw [if_pos (.inl hm)] at hQ
      exact end1 rfl rfl (by kernel_rfl) .f (hQ _ _ rfl rfl)
    · rw [decide_eq_true hm]
      repeat' (first|(with_reducible first|refine Wa.h ?_|refine Ws.h ?_|refine We.h fun K hK=>?_|refine Wd.h fun K M hK hM=>?_|(refine hK _ _ _ _ ?_;clear hK K;try clear hM M)|(refine hM ?_;clear hM M;try clear hK K)|refine Wb.h fun K hK=>?_|(refine hK _ ?_;clear hK K)|(refine wT ?_ ?_;· assumption)|(refine wF ?_ ?_;· assumption))|((with_reducible refine kQ ?_ ?_);kernel_rfl)|((with_reducible refine k1 ?_ ?_);rfl)|((with_reducible refine k0 ?_ ?_);rfl)|((with_reducible apply kB)<;>first|rfl|intro h)|((with_reducible refine kM ?_ ?_);rfl)|(with_reducible refine Wq.h ?_ ?_)<;>intro h<;>try (exfalso;omega)|(with_reducible refine Wu.h ?_ ?_)<;>intro h<;>try simp only [h]|((fail_if_success with_reducible refine Wz.h ?_);first|simp (disch:=omega) only [↓LD,LA,loadA_rf,seval,evB,Nn.cs,List.map_cons,List.map_nil,LSt,load_fNn,take_fNn,Nn.cs,len_fNn,store_ag4,splice_Nn,nd_at2,nd_cs,List.length_set]|((with_reducible refine And.intro ?_ ?_);omega)|simp only [D.int,D.bool]))
      · refine HS.view (View.wkd 1 ((nodes.set e.node.toNat ⟨1,e.n,e.time + (gt defs e.node.toNat).le,[]⟩).flatMap Nn.cs) rfl (splice_nil hnl).1 (splice_nil hnl).2) ?_
        repeat' (first|(with_reducible first|refine Wx.h ?_|refine Wb.h fun K hK=>?_|(refine hK _ ?_;clear hK K)|(refine wT ?_ ?_;· assumption)|(refine wF ?_ ?_;· assumption))|((with_reducible refine kQ ?_ ?_);kernel_rfl)|((with_reducible refine k1 ?_ ?_);rfl)|((with_reducible refine k0 ?_ ?_);rfl)|((with_reducible apply kB)<;>first|rfl|intro h)|((with_reducible refine kM ?_ ?_);rfl)|(with_reducible refine Wq.h ?_ ?_)<;>intro h<;>try (exfalso;omega)|(with_reducible refine Wu.h ?_ ?_)<;>intro h<;>try simp only [h]|((fail_if_success with_reducible refine Wz.h ?_);first|simp (disch:=omega) only [↓LD,LA,loadA_rf,seval]|((with_reducible refine And.intro ?_ ?_);omega)|simp only [D.int,D.bool]))
        rw [if_neg (by simp_all)] at hQ
        refine end1 rfl rfl (by kernel_rfl) .f (hQ _ _ rfl ?_)
        simp only [stK,rN,List.length_set]
        rfl
      · repeat' (first|(with_reducible first|refine Wx.h ?_|refine Wb.h fun K hK=>?_|(refine hK _ ?_;clear hK K)|(refine wT ?_ ?_;· assumption)|(refine wF ?_ ?_;· assumption))|((with_reducible refine kQ ?_ ?_);kernel_rfl)|((with_reducible refine k1 ?_ ?_);rfl)|((with_reducible refine k0 ?_ ?_);rfl)|((with_reducible apply kB)<;>first|rfl|intro h)|((with_reducible refine kM ?_ ?_);rfl)|(with_reducible refine Wq.h ?_ ?_)<;>intro h<;>try (exfalso;omega)|(with_reducible refine Wu.h ?_ ?_)<;>intro h<;>try simp only [h]|((fail_if_success with_reducible refine Wz.h ?_);first|simp (disch:=omega) only [↓LD,LA,loadA_rf,seval]|((with_reducible refine And.intro ?_ ?_);omega)|simp only [D.int,D.bool]))
        rw [if_pos (.inr (by assumption))] at hQ
        exact end1 rfl rfl (by kernel_rfl) .f (hQ _ _ rfl rfl)
  · have hb : nodeR ⟨id,ver,time,closed,cancel,defs,nodes,tms,sgs⟩ e = (0,⟨id,ver,time,closed,cancel,defs,nodes.set e.node.toNat { gt nodes e.node.toNat with st:=2,due:=0,data:=e.data },tms,sgs⟩):=by
      unfold nodeR;rw [if_neg (show ¬ (nodes.length : Int) ≤ e.node by assumption),if_neg (by assumption),if_neg (by simp_all),if_pos (by assumption)]
    rw [hb] at hQ
    refine end1 rfl rfl (by kernel_rfl) .f (hQ _ _ rfl ?_)
    simp only [stK,rN,List.length_set]
    rfl
  · have hb : nodeR ⟨id,ver,time,closed,cancel,defs,nodes,tms,sgs⟩ e = (0,⟨id,ver,time,closed,cancel,defs,nodes.set e.node.toNat { gt nodes e.node.toNat with st:=3,due:=0 },tms,sgs⟩):=by
      unfold nodeR;rw [if_neg (show ¬ (nodes.length : Int) ≤ e.node by assumption),if_neg (by assumption),if_neg (by simp_all),if_neg (by assumption),if_pos (by assumption)]
    rw [hb] at hQ
    refine end1 rfl rfl (by kernel_rfl) .f (hQ _ _ rfl ?_)
    simp only [stK,rN,List.length_set]
    rfl
  · have hb : nodeR ⟨id,ver,time,closed,cancel,defs,nodes,tms,sgs⟩ e = (0,⟨id,ver,time,closed,cancel,defs,nodes.set e.node.toNat { gt nodes e.node.toNat with st:=0,due:=0 },tms,sgs⟩):=by
      unfold nodeR;rw [if_neg (show ¬ (nodes.length : Int) ≤ e.node by assumption),if_neg (by assumption),if_neg (by simp_all),if_neg (by assumption),if_neg (by assumption)]
    rw [hb] at hQ
    refine end1 rfl rfl (by kernel_rfl) .f (hQ _ _ rfl ?_)
    simp only [stK,rN,List.length_set]
    rfl
  · have hb : nodeR ⟨id,ver,time,closed,cancel,defs,nodes,tms,sgs⟩ e = (4,⟨id,ver,time,closed,cancel,defs,nodes,tms,sgs⟩):=by
      unfold nodeR;rw [if_neg (show ¬ (nodes.length : Int) ≤ e.node by assumption),if_neg (by assumption),if_pos (.inr (by assumption))]
    rw [hb] at hQ
    exact end1 rfl rfl (by kernel_rfl) .f (hQ _ _ rfl rfl)
  · have hb : nodeR ⟨id,ver,time,closed,cancel,defs,nodes,tms,sgs⟩ e = (4,⟨id,ver,time,closed,cancel,defs,nodes,tms,sgs⟩):=by
      unfold nodeR;rw [if_neg (show ¬ (nodes.length : Int) ≤ e.node by assumption),if_neg (by assumption),if_pos (.inl (by assumption))]
    rw [hb] at hQ
    exact end1 rfl rfl (by kernel_rfl) .f (hQ _ _ rfl rfl)
set_option maxHeartbeats 4000000
theorem vws_stK {id ver time closed : Int} {cancel : Bool} {defs : List Nd} {nodes : List Nn} {tms : List Tm} {sgs : List Sg} {r : Nat} {H : List Row} (h : H[r]? = some (.data 51 (nodes.flatMap Nn.cs))) : Vw H (.ag [.f (.v (.int .i64 id)),.f (.v (.int .i64 ver)),.f (.v (.int .i64 time)),.f (.v (.int .i64 closed)),.f (.v (.bool cancel)),.f (fG defs),.sl r 0 nodes.length,.f (fTm tms),.f (fSg sgs)]) (stD ⟨id,ver,time,closed,cancel,defs,nodes,tms,sgs⟩) :=
  .ags (.cons .f (.cons .f (.cons .f (.cons .f (.cons .f (.cons .f (.cons (.sl (xs:=nodes.flatMap Nn.cs) h (fun e=>by rw [List.eq_nil_of_length_eq_zero e];rfl)) (.cons .f (.cons .f .nil)))))))))
instance {id ver time closed : Int} {cancel : Bool} {defs : List Nd} {nodes : List Nn} {tms : List Tm} {sgs : List Sg} {r : Nat} {H : List Row} {nm : Bs} {K : D → List Row → Prop} : Wa (callW Tryz.prog (.fn 31 []) [.ag [.f (.v (.int .i64 id)),.f (.v (.int .i64 ver)),.f (.v (.int .i64 time)),.f (.v (.int .i64 closed)),.f (.v (.bool cancel)),.f (fG defs),.sl r 0 nodes.length,.f (fTm tms),.f (fSg sgs)],.f (.v (.string (BB nm)))] H K)
    (H[r]? = some (.data 51 (nodes.flatMap Nn.cs)) ∧ sgs.length ≤ 1000000 ∧ K (.f (.v (.bool (hasSg sgs nm)))) H):=⟨fun h=>by
  refine callW_peek (c_ref_Has ⟨id,ver,time,closed,cancel,defs,nodes,tms,sgs⟩ nm h.2.1) (.cons (vws_stK h.1) (.cons .f .nil)) ?_ ?_
  · rintro _ _ ⟨rfl,rfl⟩
    exact ⟨.f .v,by simp⟩
  · rintro _ _ ⟨rfl,rfl⟩
    show K (.f (.v (.bool (hasSg sgs nm)))) (_ ++ [])
    rw [List.append_nil];exact h.2.2⟩
instance {id ver time closed : Int} {cancel : Bool} {defs : List Nd} {nodes : List Nn} {tms : List Tm} {sgs : List Sg} {r : Nat} {H : List Row} {nm : Int} {K : D → List Row → Prop} : Wa (callW Tryz.prog (.fn 32 []) [.ag [.f (.v (.int .i64 id)),.f (.v (.int .i64 ver)),.f (.v (.int .i64 time)),.f (.v (.int .i64 closed)),.f (.v (.bool cancel)),.f (fG defs),.sl r 0 nodes.length,.f (fTm tms),.f (fSg sgs)],.f (.v (.int .i64 nm))] H K)
    (H[r]? = some (.data 51 (nodes.flatMap Nn.cs)) ∧ nodes.length ≤ 1000000 ∧ K (.f (.v (.int .i64 (cntL nodes nm)))) H):=⟨fun h=>by
  refine callW_peek (c_ref_count ⟨id,ver,time,closed,cancel,defs,nodes,tms,sgs⟩ nm h.2.1) (.cons (vws_stK h.1) (.cons .f .nil)) ?_ ?_
  · rintro _ _ ⟨rfl,rfl⟩
    exact ⟨.f .v,by simp⟩
  · rintro _ _ ⟨rfl,rfl⟩
    show K (.f (.v (.int .i64 (cntL nodes nm)))) (_ ++ [])
    rw [List.append_nil];exact h.2.2⟩
instance {id ver time closed : Int} {cancel : Bool} {defs : List Nd} {nodes : List Nn} {tms : List Tm} {sgs : List Sg} {r : Nat} {H : List Row} {nm : Bs} {K : Bool → D → List Row → Prop} : Wa (callDr Tryz.prog (.fn 59 []) [.ag [.f (.v (.int .i64 id)),.f (.v (.int .i64 ver)),.f (.v (.int .i64 time)),.f (.v (.int .i64 closed)),.f (.v (.bool cancel)),.f (fG defs),.sl r 0 nodes.length,.f (fTm tms),.f (fSg sgs)],.f (.v (.string (BB nm)))] H K)
    (H[r]? = some (.data 51 (nodes.flatMap Nn.cs)) ∧ tms.length ≤ 1000000 ∧ K false (.f (.v (.int .i64 (tmI tms nm)))) H):=⟨fun h=>by
  refine callDr_peek (c_ref_timer ⟨id,ver,time,closed,cancel,defs,nodes,tms,sgs⟩ nm h.2.1) (.cons (vws_stK h.1) (.cons .f .nil)) ⟨.f .v,by simp⟩ ?_
  show K false (.f (.v (.int .i64 (tmI tms nm)))) (_ ++ [])
  rw [List.append_nil];exact h.2.2⟩
instance {id ver time closed : Int} {cancel : Bool} {defs : List Nd} {nodes : List Nn} {tms : List Tm} {sgs : List Sg} {r : Nat} {H : List Row} {nm : Int} {K : Bool → D → List Row → Prop} : Wa (callDr Tryz.prog (.fn 32 []) [.ag [.f (.v (.int .i64 id)),.f (.v (.int .i64 ver)),.f (.v (.int .i64 time)),.f (.v (.int .i64 closed)),.f (.v (.bool cancel)),.f (fG defs),.sl r 0 nodes.length,.f (fTm tms),.f (fSg sgs)],.f (.v (.int .i64 nm))] H K)
    (H[r]? = some (.data 51 (nodes.flatMap Nn.cs)) ∧ nodes.length ≤ 1000000 ∧ K false (.f (.v (.int .i64 (cntL nodes nm)))) H):=⟨fun h=>by
  refine callDr_peek (c_ref_count ⟨id,ver,time,closed,cancel,defs,nodes,tms,sgs⟩ nm h.2.1) (.cons (vws_stK h.1) (.cons .f .nil)) ⟨.f .v,by simp⟩ ?_
  show K false (.f (.v (.int .i64 (cntL nodes nm)))) (_ ++ [])
  rw [List.append_nil];exact h.2.2⟩
def stKT (a b : Nat) (s : S12) : List D:=[D.int s.id,D.int s.ver,D.int s.time,D.int s.closed,D.bool s.cancel,.f (fG s.defs),.sl a 0 s.nodes.length,.sl b 0 s.tms.length,.f (fSg s.sgs)]
def timerR (s : S12) (e : Ev) : Int × S12:=if e.ty = 5 then armL s e else fireL s e
set_option maxRecDepth 100000 in
theorem c_ref_applyTimer (s : S12) (e : Ev) (hl : s.tms.length ≤ 1000000) (ht : 0 ≤ e.time ∧ e.time ≤ 1099511627776) (hn : e.ty = 5 → 0 ≤ e.n ∧ e.n ≤ 1048576) :
    Con Tryz.prog 30 [.pt 0 0,evD e] [.box 29 (stK 1 s),rN s.nodes] fun r H'=>r = D.int (timerR s e).1 ∧
      (((timerR s e).1 ≠ 0 ∧ H' = [.box 29 (stK 1 s),rN s.nodes]) ∨ ((timerR s e).1 = 0 ∧ H' = [.box 29 (stKT 1 2 (timerR s e).2),rN s.nodes,rT (timerR s e).2.tms])):=by
  obtain ⟨id,ver,time,closed,cancel,defs,nodes,tms,sgs⟩:=s
  dsimp only at hl
  suffices hh : ∀ Q : D → List Row → Prop,(∀ r H',r = D.int (timerR ⟨id,ver,time,closed,cancel,defs,nodes,tms,sgs⟩ e).1 → (((timerR ⟨id,ver,time,closed,cancel,defs,nodes,tms,sgs⟩ e).1 ≠ 0 ∧ H' = [.box 29 (stK 1 ⟨id,ver,time,closed,cancel,defs,nodes,tms,sgs⟩),rN nodes]) ∨ ((timerR ⟨id,ver,time,closed,cancel,defs,nodes,tms,sgs⟩ e).1 = 0 ∧ H' = [.box 29 (stKT 1 2 (timerR ⟨id,ver,time,closed,cancel,defs,nodes,tms,sgs⟩ e).2),rN nodes,rT (timerR ⟨id,ver,time,closed,cancel,defs,nodes,tms,sgs⟩ e).2.tms])) → Q r H') → Con Tryz.prog 30 [.pt 0 0,evD e] [.box 29 (stK 1 ⟨id,ver,time,closed,cancel,defs,nodes,tms,sgs⟩),rN nodes] Q from hh _ fun _ _ h1 h2=>⟨h1,h2⟩
  intro Q hQ
  have hlt:=tmI_lt tms e.name
  refine Con.walk good fn_ref_applyTimer (by simp) ?_
  unfold s_ref_applyTimer
  simp only [argsE,evD,stK,rN]
  repeat' (first|(with_reducible first|refine Wx.h ?_|refine We.h fun K hK=>?_|refine Wd.h fun K M hK hM=>?_|(refine hK _ _ _ _ ?_;clear hK K;try clear hM M)|(refine hM ?_;clear hM M;try clear hK K)|refine Wb.h fun K hK=>?_|(refine hK _ ?_;clear hK K)|(refine wT ?_ ?_;· assumption)|(refine wF ?_ ?_;· assumption))|((with_reducible refine kQ ?_ ?_);kernel_rfl)|((with_reducible refine k1 ?_ ?_);rfl)|((with_reducible refine k0 ?_ ?_);rfl)|((with_reducible apply kB)<;>first|rfl|intro h)|((with_reducible refine kM ?_ ?_);rfl)|(with_reducible refine Wq.h ?_ ?_)<;>intro h<;>try (exfalso;omega)|(with_reducible refine Wu.h ?_ ?_)<;>intro h<;>try simp only [h]|((fail_if_success with_reducible refine Wz.h ?_);first|simp (disch:=omega) only [↓LD,LA,loadA_rf,seval,LSt,at0_fTm,at1_fTm,at2_fTm,len_fTm,List.length_set,List.getElem?_set_ne,Tm.cs]|((with_reducible refine And.intro ?_ ?_);omega)|simp only [D.int,D.bool]))
  all_goals first
    | (have hb : timerR ⟨id,ver,time,closed,cancel,defs,nodes,tms,sgs⟩ e = (13,⟨id,ver,time,closed,cancel,defs,nodes,tms,sgs⟩):=by (unfold timerR armL;rw [if_pos (by assumption),if_pos (by assumption)])
       rw [hb] at hQ
       exact end1 rfl rfl (by kernel_rfl) .f (hQ _ _ rfl (.inl ⟨by simp,rfl⟩)))
    | (have hb : timerR ⟨id,ver,time,closed,cancel,defs,nodes,tms,sgs⟩ e = (4,⟨id,ver,time,closed,cancel,defs,nodes,tms,sgs⟩):=by (unfold timerR armL;rw [if_pos (by assumption),if_neg (by assumption),if_pos (show 8 ≤ tms.length by omega)])
       rw [hb] at hQ
       exact end1 rfl rfl (by kernel_rfl) .f (hQ _ _ rfl (.inl ⟨by simp,rfl⟩)))
    | (have hb : timerR ⟨id,ver,time,closed,cancel,defs,nodes,tms,sgs⟩ e = (4,⟨id,ver,time,closed,cancel,defs,nodes,tms,sgs⟩):=by (unfold timerR fireL;rw [if_neg (by assumption),if_pos (by assumption)])
       rw [hb] at hQ
       exact end1 rfl rfl (by kernel_rfl) .f (hQ _ _ rfl (.inl ⟨by simp,rfl⟩)))
    | (have hb : timerR ⟨id,ver,time,closed,cancel,defs,nodes,tms,sgs⟩ e = (4,⟨id,ver,time,closed,cancel,defs,nodes,tms,sgs⟩):=by (unfold timerR fireL;rw [if_neg (by assumption),if_neg (by assumption),if_pos (.inl (by assumption))])
       rw [hb] at hQ
       exact end1 rfl rfl (by kernel_rfl) .f (hQ _ _ rfl (.inl ⟨by simp,rfl⟩)))
    | (have hb : timerR ⟨id,ver,time,closed,cancel,defs,nodes,tms,sgs⟩ e = (4,⟨id,ver,time,closed,cancel,defs,nodes,tms,sgs⟩):=by (unfold timerR fireL;rw [if_neg (by assumption),if_neg (by assumption),if_pos (.inr (by assumption))])
       rw [hb] at hQ
       exact end1 rfl rfl (by kernel_rfl) .f (hQ _ _ rfl (.inl ⟨by simp,rfl⟩)))
    | (have hz : tms.length = 0:=by assumption
       obtain rfl:=List.eq_nil_of_length_eq_zero hz
       have hb : timerR ⟨id,ver,time,closed,cancel,defs,nodes,[],sgs⟩ e = (0,⟨id,ver,time,closed,cancel,defs,nodes,[] ++ [(⟨e.name,e.time + e.n,false⟩ : Tm)],sgs⟩):=by (unfold timerR armL;rw [if_pos (by assumption),if_neg (by assumption),if_neg (by simp)])
       rw [hb] at hQ
       exact endG rfl rfl (ef:=⟨D.int 0,[(0,.box 29 (stKT 1 2 ⟨id,ver,time,closed,cancel,defs,nodes,[] ++ [(⟨e.name,e.time + e.n,false⟩ : Tm)],sgs⟩)),(1,rN nodes)],[rT ([] ++ [(⟨e.name,e.time + e.n,false⟩ : Tm)])]⟩) (by kernel_rfl) (hQ _ _ rfl (.inr ⟨rfl,rfl⟩)))
    | (have hb : timerR ⟨id,ver,time,closed,cancel,defs,nodes,tms,sgs⟩ e = (0,⟨id,ver,time,closed,cancel,defs,nodes,tms ++ [(⟨e.name,e.time + e.n,false⟩ : Tm)],sgs⟩):=by (unfold timerR armL;rw [if_pos (by assumption),if_neg (by assumption),if_neg (show ¬ 8 ≤ tms.length by omega)])
       rw [hb] at hQ
       have e1 : tms.flatMap Tm.cs ++ [F.v (.string (BB e.name)),.v (.int .i64 (e.time + e.n)),.v (.bool false)] = (tms ++ [(⟨e.name,e.time + e.n,false⟩ : Tm)]).flatMap Tm.cs:=by simp [Tm.cs]
       have e2 : tms.length + 1 = (tms ++ [(⟨e.name,e.time + e.n,false⟩ : Tm)]).length:=by simp
       rw [e1,e2]
       exact endG rfl rfl (ef:=⟨D.int 0,[(0,.box 29 (stKT 1 2 ⟨id,ver,time,closed,cancel,defs,nodes,tms ++ [(⟨e.name,e.time + e.n,false⟩ : Tm)],sgs⟩)),(1,rN nodes)],[rT (tms ++ [(⟨e.name,e.time + e.n,false⟩ : Tm)])]⟩) (by kernel_rfl) (hQ _ _ rfl (.inr ⟨rfl,rfl⟩)))
    | (have hb : timerR ⟨id,ver,time,closed,cancel,defs,nodes,tms,sgs⟩ e = (0,⟨id,ver,time,closed,cancel,defs,nodes,tms.set (tmI tms e.name).toNat { gt tms (tmI tms e.name).toNat with fired:=true },sgs⟩):=by (unfold timerR fireL;rw [if_neg (by assumption),if_neg (by assumption),if_neg (by simp_all)])
       rw [hb] at hQ
       have hnl : (tmI tms e.name).toNat < tms.length:=by omega
       rw [flat_set (cs:=Tm.cs) cs_Tm (j:=2) (y:={ gt tms (tmI tms e.name).toNat with fired:=true }) (by omega) hnl rfl]
       have e2 : tms.length = (tms.set (tmI tms e.name).toNat { gt tms (tmI tms e.name).toNat with fired:=true }).length:=by simp
       generalize hX : (tms.set (tmI tms e.name).toNat { gt tms (tmI tms e.name).toNat with fired:=true }) = X at *
       refine endG rfl rfl (ef:=⟨D.int 0,[(0,.box 29 (stKT 1 2 ⟨id,ver,time,closed,cancel,defs,nodes,X,sgs⟩)),(1,rN nodes)],[rT X]⟩) ?_ (hQ _ _ rfl (.inr ⟨rfl,rfl⟩))
       rw [stKT,← e2]
       kernel_rfl)
set_option maxHeartbeats 4000000
theorem c_r8_Owner (v : Int) : Con Tryz.prog 86 [D.int v] [] fun r H'=>r = D.int (ownI v) ∧ H' = []:=by
  have h1:=Int.tmod_lt_of_pos v (show (0 : Int) < 10 by omega)
  have h2 : -10 < v.tmod 10:=by
    have:=Int.tmod_lt_of_pos (-v) (show (0 : Int) < 10 by omega)
    rw [Int.neg_tmod] at this;omega
  refine Con.walk good fn_r8_Owner (by simp) ?_
  unfold s_r8_Owner
  simp only [argsE]
  repeat' (first|(with_reducible first|refine Wx.h ?_|refine Wb.h fun K hK=>?_|(refine hK _ ?_;clear hK K)|(refine wT ?_ ?_;· assumption)|(refine wF ?_ ?_;· assumption))|((with_reducible refine kQ ?_ ?_);kernel_rfl)|((with_reducible refine k1 ?_ ?_);rfl)|((with_reducible refine k0 ?_ ?_);rfl)|((with_reducible apply kB)<;>first|rfl|intro h)|((with_reducible refine kM ?_ ?_);rfl)|(with_reducible refine Wq.h ?_ ?_)<;>intro h<;>try (exfalso;omega)|(with_reducible refine Wu.h ?_ ?_)<;>intro h<;>try simp only [h]|((fail_if_success with_reducible refine Wz.h ?_);first|simp (disch:=omega) only [↓LD,LA,loadA_rf,seval]|((with_reducible refine And.intro ?_ ?_);omega)|simp only [D.int,D.bool]))
  refine end1 rfl rfl (by kernel_rfl) .f ⟨rfl,rfl⟩
instance {n : Int} {H : List Row} {K : D → List Row → Prop} : Wa (callW Tryz.prog (.fn 86 []) [.f (.v (.int .i64 n))] H K) (K (.f (.v (.int .i64 (ownI n)))) H) :=
  ⟨fun h=>callW_pure (c_r8_Owner n) rfl rfl rfl h⟩
theorem c_r8_RightVersion (v : Int) : Con Tryz.prog 54 [D.int v] [] fun r H'=>r = D.bool (verB v) ∧ H' = []:=by
  refine Con.walk good fn_r8_RightVersion (by simp) ?_
  unfold s_r8_RightVersion
  simp only [argsE]
  repeat' (first|(with_reducible first|refine Wx.h ?_|refine We.h fun K hK=>?_|refine Wd.h fun K M hK hM=>?_|(refine hK _ _ _ _ ?_;clear hK K;try clear hM M)|(refine hM ?_;clear hM M;try clear hK K)|refine Wb.h fun K hK=>?_|(refine hK _ ?_;clear hK K)|(refine wT ?_ ?_;· assumption)|(refine wF ?_ ?_;· assumption))|((with_reducible refine kQ ?_ ?_);kernel_rfl)|((with_reducible refine k1 ?_ ?_);rfl)|((with_reducible refine k0 ?_ ?_);rfl)|((with_reducible apply kB)<;>first|rfl|intro h)|((with_reducible refine kM ?_ ?_);rfl)|(with_reducible refine Wq.h ?_ ?_)<;>intro h<;>try (exfalso;omega)|(with_reducible refine Wu.h ?_ ?_)<;>intro h<;>try simp only [h]|((fail_if_success with_reducible refine Wz.h ?_);first|simp (disch:=omega) only [↓LD,LA,loadA_rf,seval]|((with_reducible refine And.intro ?_ ?_);omega)|simp only [D.int,D.bool]))
  all_goals (refine end1 rfl rfl (by kernel_rfl) .f ⟨congrArg D.bool ?_,rfl⟩;simp [verB,inI, *])
theorem c_r8_IsName (l : Bs) (hl : l.length ≤ 1000000) : Con Tryz.prog 56 [.f (.v (.string (BB l)))] [] fun r H'=>r = D.bool (nameB l) ∧ H' = []:=by
  refine Con.walk good fn_r8_IsName (by simp) ?_
  unfold s_r8_IsName
  simp only [argsE]
  repeat' (first|(with_reducible first|refine Wx.h ?_|refine Wb.h fun K hK=>?_|(refine hK _ ?_;clear hK K)|(refine wT ?_ ?_;· assumption)|(refine wF ?_ ?_;· assumption))|((with_reducible refine kQ ?_ ?_);kernel_rfl)|((with_reducible refine k1 ?_ ?_);rfl)|((with_reducible refine k0 ?_ ?_);rfl)|((with_reducible apply kB)<;>first|rfl|intro h)|((with_reducible refine kM ?_ ?_);rfl)|(with_reducible refine Wq.h ?_ ?_)<;>intro h<;>try (exfalso;omega)|(with_reducible refine Wu.h ?_ ?_)<;>intro h<;>try simp only [h]|((fail_if_success with_reducible refine Wz.h ?_);first|simp (disch:=omega) only [↓LD,LA,loadA_rf,seval]|((with_reducible refine And.intro ?_ ?_);omega)|simp only [D.int,D.bool]))
  refine HS.loopG [0,3] (fun k : Nat=>⟨frm 47 [(0,.f (.v (.string (BB l)))),(3,D.int k)],[],[]⟩) (fun k=>k ≤ l.length ∧ l.all chB = (l.drop k).all chB) (fun k=>l.length - k) 0 (by kernel_rfl) ⟨Nat.zero_le _,rfl⟩ ?_
  rintro k ⟨hk,hr⟩
  by_cases hkl : k < l.length
  · have hg:=getElem?_some_of hkl
    rw [drop_gt hkl,List.all_cons] at hr
    repeat' (first|(with_reducible first|refine Wx.h ?_|refine Wb.h fun K hK=>?_|(refine hK _ ?_;clear hK K)|(refine wT ?_ ?_;· assumption)|(refine wF ?_ ?_;· assumption))|((with_reducible refine kQ ?_ ?_);kernel_rfl)|((with_reducible refine k1 ?_ ?_);rfl)|((with_reducible refine k0 ?_ ?_);rfl)|((with_reducible apply kB)<;>first|rfl|intro h)|((with_reducible refine kM ?_ ?_);rfl)|(with_reducible refine Wq.h ?_ ?_)<;>intro h<;>try (exfalso;omega)|(with_reducible refine Wu.h ?_ ?_)<;>intro h<;>try simp only [h]|((fail_if_success with_reducible refine Wz.h ?_);first|simp (disch:=omega) only [↓LD,LA,loadA_rf,seval,hg]|((with_reducible refine And.intro ?_ ?_);omega)|simp only [D.int,D.bool]))
    all_goals first
      | (refine end1 rfl rfl (by kernel_rfl) .f ⟨congrArg D.bool ?_,rfl⟩
         have hc : chB (gt l k) = false:=by simp only [chB,inI];simp [*]
         rw [nameB,hr,hc];simp)
      | (refine Next.mk (k + 1) (by kernel_rfl) ⟨by omega,?_⟩ (by omega)
         have hc : chB (gt l k) = true:=by simp only [chB,inI];simp [*]
         rw [hr,hc];rfl)
  · rw [List.drop_of_length_le (by omega),List.all_nil] at hr
    have hz : ((1 : Int) ≤ l.length) = (l ≠ []):=by apply propext;cases l<;>simp;omega
    repeat' (first|(with_reducible first|refine Wx.h ?_|refine Wb.h fun K hK=>?_|(refine hK _ ?_;clear hK K)|(refine wT ?_ ?_;· assumption)|(refine wF ?_ ?_;· assumption))|((with_reducible refine kQ ?_ ?_);kernel_rfl)|((with_reducible refine k1 ?_ ?_);rfl)|((with_reducible refine k0 ?_ ?_);rfl)|((with_reducible apply kB)<;>first|rfl|intro h)|((with_reducible refine kM ?_ ?_);rfl)|(with_reducible refine Wq.h ?_ ?_)<;>intro h<;>try (exfalso;omega)|(with_reducible refine Wu.h ?_ ?_)<;>intro h<;>try simp only [h]|((fail_if_success with_reducible refine Wz.h ?_);first|simp (disch:=omega) only [↓LD,LA,loadA_rf,seval]|((with_reducible refine And.intro ?_ ?_);omega)|simp only [D.int,D.bool]))
    all_goals (refine end1 rfl rfl (by kernel_rfl) .f ⟨congrArg D.bool ?_,rfl⟩;rw [nameB,hr])
    all_goals first
      | (rw [decide_eq_true (p:=l ≠ []) (by rw [← hz];assumption),decide_eq_true (p:=l.length ≤ 16) (by omega)];rfl)
      | (rw [decide_eq_false (p:=l.length ≤ 16) (by omega)];simp;done)
      | (rw [decide_eq_false (p:=l ≠ []) (by rw [← hz];assumption)];rfl)
instance {n : Int} {H : List Row} {K : D → List Row → Prop} : Wa (callW Tryz.prog (.fn 54 []) [.f (.v (.int .i64 n))] H K) (K (.f (.v (.bool (verB n)))) H) :=
  ⟨fun h=>callW_pure (c_r8_RightVersion n) rfl rfl rfl h⟩
instance {l : Bs} {H : List Row} {K : D → List Row → Prop} : Wa (callW Tryz.prog (.fn 56 []) [.f (.v (.string (BB l)))] H K) (l.length ≤ 1000000 ∧ K (.f (.v (.bool (nameB l)))) H) :=
  ⟨fun h=>callW_pure (c_r8_IsName l h.1) rfl rfl rfl h.2⟩
theorem c_r8_rightDefs (ds : List Nd) (hf : FitN ds) (hl : ds.length < 1000000) : Con Tryz.prog 55 [.f (fG ds)] [] fun r H'=>r = D.bool (defsB ds) ∧ H' = []:=by
  have hn:=hf
  have hc1 : ds.all (fun d=>rightB d ds.length) = false → defsB ds = false:=fun h=>by rw [defsB,h];rfl
  refine Con.walk good fn_r8_rightDefs (by simp) ?_
  unfold s_r8_rightDefs
  simp only [argsE]
  repeat' (first|(with_reducible first|refine Wx.h ?_|refine Wb.h fun K hK=>?_|(refine hK _ ?_;clear hK K)|(refine wT ?_ ?_;· assumption)|(refine wF ?_ ?_;· assumption))|((with_reducible refine kQ ?_ ?_);kernel_rfl)|((with_reducible refine k1 ?_ ?_);rfl)|((with_reducible refine k0 ?_ ?_);rfl)|((with_reducible apply kB)<;>first|rfl|intro h)|((with_reducible refine kM ?_ ?_);rfl)|(with_reducible refine Wq.h ?_ ?_)<;>intro h<;>try (exfalso;omega)|(with_reducible refine Wu.h ?_ ?_)<;>intro h<;>try simp only [h]|((fail_if_success with_reducible refine Wz.h ?_);first|simp (disch:=omega) only [↓LD,LA,loadA_rf,seval,fG]|((with_reducible refine And.intro ?_ ?_);omega)|simp only [D.int,D.bool]))
  refine HS.loopG [0,3] (fun i : Nat=>⟨frm 83 [(0,.f (fG ds)),(3,D.int i)],[],[]⟩)
    (fun i=>i ≤ ds.length ∧ ds.all (fun d=>rightB d ds.length) = (ds.drop i).all (fun d=>rightB d ds.length)) (fun i=>ds.length - i) 0 (by kernel_rfl) ⟨Nat.zero_le _,rfl⟩ ?_
  rintro i ⟨hi,ha⟩
  by_cases hil : i < ds.length
  · have hnl:=hn _ (gt_mem hil)
    rw [drop_gt hil,List.all_cons,right_split] at ha
    by_cases htl : 1 ≤ (gt ds i).tr ∧ (gt ds i).tr ≤ 5 ∧ 1 ≤ (gt ds i).le ∧ (gt ds i).le ≤ 1048576
    rotate_left
    · have hc:=hc1 (by rw [ha,show (decide (1 ≤ (gt ds i).tr) && decide ((gt ds i).tr ≤ 5) && decide (1 ≤ (gt ds i).le) && decide ((gt ds i).le ≤ 1048576)) = false by simp only [Bool.and_eq_false_iff,decide_eq_false_iff_not];omega,Bool.and_false,Bool.false_and])
      repeat' (first|(with_reducible first|refine Wx.h ?_|refine Wb.h fun K hK=>?_|(refine hK _ ?_;clear hK K)|(refine wT ?_ ?_;· assumption)|(refine wF ?_ ?_;· assumption))|((with_reducible refine kQ ?_ ?_);kernel_rfl)|((with_reducible refine k1 ?_ ?_);rfl)|((with_reducible refine k0 ?_ ?_);rfl)|((with_reducible apply kB)<;>first|rfl|intro h)|((with_reducible refine kM ?_ ?_);rfl)|(with_reducible refine Wq.h ?_ ?_)<;>intro h<;>try (exfalso;omega)|(with_reducible refine Wu.h ?_ ?_)<;>intro h<;>try simp only [h]|((fail_if_success with_reducible refine Wz.h ?_);first|simp (disch:=omega) only [↓LD,LA,loadA_rf,seval,fG,nd_load,nd_cs,nd_at0,nd_at1,nd_at2,-loadA_rf]|((with_reducible refine And.intro ?_ ?_);omega)|simp only [D.int,D.bool]))
      all_goals exact end1 rfl rfl (by kernel_rfl) .f ⟨by rw [hc];rfl,rfl⟩
    rw [show (decide (1 ≤ (gt ds i).tr) && decide ((gt ds i).tr ≤ 5) && decide (1 ≤ (gt ds i).le) && decide ((gt ds i).le ≤ 1048576)) = true by simp only [Bool.and_eq_true,decide_eq_true_eq];omega,Bool.and_true] at ha
    repeat' (first|(with_reducible first|refine Wx.h ?_|refine Wb.h fun K hK=>?_|(refine hK _ ?_;clear hK K)|(refine wT ?_ ?_;· assumption)|(refine wF ?_ ?_;· assumption))|((with_reducible refine kQ ?_ ?_);kernel_rfl)|((with_reducible refine k1 ?_ ?_);rfl)|((with_reducible refine k0 ?_ ?_);rfl)|((with_reducible apply kB)<;>first|rfl|intro h)|((with_reducible refine kM ?_ ?_);rfl)|(with_reducible refine Wq.h ?_ ?_)<;>intro h<;>try (exfalso;omega)|(with_reducible refine Wu.h ?_ ?_)<;>intro h<;>try simp only [h]|((fail_if_success with_reducible refine Wz.h ?_);first|simp (disch:=omega) only [↓LD,LA,loadA_rf,seval,fG,nd_load,nd_cs,nd_at0,nd_at1,nd_at2,-loadA_rf]|((with_reducible refine And.intro ?_ ?_);omega)|simp only [D.int,D.bool]))
    refine HS.loopG [0,3,4,5] (fun k : Nat=>⟨frm 83 [(0,.f (fG ds)),(3,D.int i),(4,.pt 0 0),(5,D.int k)],[.box 48 [.f (fI (gt ds i).ns),D.int (gt ds i).tr,D.int (gt ds i).le]],[]⟩)
      (fun k=>k ≤ (gt ds i).ns.length ∧ -1 ≤ lstI (gt ds i).ns k ∧ rise ds.length (-1) (gt ds i).ns = rise ds.length (lstI (gt ds i).ns k) ((gt ds i).ns.drop k)) (fun k=>(gt ds i).ns.length - k) 0 (by kernel_rfl) ⟨Nat.zero_le _,by simp [lstI],rfl⟩ ?_
    rintro k ⟨hk,hlb,hrs⟩
    by_cases hkl : k < (gt ds i).ns.length
    · rw [drop_gt hkl,rise] at hrs
      have hl1 : lstI (gt ds i).ns (k + 1) = gt (gt ds i).ns k:=by rw [lstI,if_neg (by omega)];rfl
      by_cases hgd : lstI (gt ds i).ns k < gt (gt ds i).ns k ∧ gt (gt ds i).ns k < ds.length
      · rw [decide_eq_true hgd.1,decide_eq_true hgd.2,← hl1] at hrs
        by_cases hk0 : k = 0
        · subst hk0
          repeat' (first|(with_reducible first|refine Wx.h ?_|refine We.h fun K hK=>?_|refine Wd.h fun K M hK hM=>?_|(refine hK _ _ _ _ ?_;clear hK K;try clear hM M)|(refine hM ?_;clear hM M;try clear hK K)|refine Wb.h fun K hK=>?_|(refine hK _ ?_;clear hK K)|(refine wT ?_ ?_;· assumption)|(refine wF ?_ ?_;· assumption))|((with_reducible refine kQ ?_ ?_);kernel_rfl)|((with_reducible refine k1 ?_ ?_);rfl)|((with_reducible refine k0 ?_ ?_);rfl)|((with_reducible apply kB)<;>first|rfl|intro h)|((with_reducible refine kM ?_ ?_);rfl)|(with_reducible refine Wq.h ?_ ?_)<;>intro h<;>try (exfalso;omega)|(with_reducible refine Wu.h ?_ ?_)<;>intro h<;>try simp only [h]|((fail_if_success with_reducible refine Wz.h ?_);first|simp (disch:=omega) only [↓LD,LA,loadA_rf,seval,fG,fI]|((with_reducible refine And.intro ?_ ?_);omega)|simp only [D.int,D.bool]))
          exact Next.mk 1 (by kernel_rfl) ⟨by omega,by rw [hl1];omega,by rw [hrs];rfl⟩ (by omega)
        · have hl2 : lstI (gt ds i).ns k = gt (gt ds i).ns ((k : Int) - 1).toNat:=by rw [lstI,if_neg hk0,show ((k : Int) - 1).toNat = k - 1 by omega]
          repeat' (first|(with_reducible first|refine Wx.h ?_|refine We.h fun K hK=>?_|refine Wd.h fun K M hK hM=>?_|(refine hK _ _ _ _ ?_;clear hK K;try clear hM M)|(refine hM ?_;clear hM M;try clear hK K)|refine Wb.h fun K hK=>?_|(refine hK _ ?_;clear hK K)|(refine wT ?_ ?_;· assumption)|(refine wF ?_ ?_;· assumption))|((with_reducible refine kQ ?_ ?_);kernel_rfl)|((with_reducible refine k1 ?_ ?_);rfl)|((with_reducible refine k0 ?_ ?_);rfl)|((with_reducible apply kB)<;>first|rfl|intro h)|((with_reducible refine kM ?_ ?_);rfl)|(with_reducible refine Wq.h ?_ ?_)<;>intro h<;>try (exfalso;omega)|(with_reducible refine Wu.h ?_ ?_)<;>intro h<;>try simp only [h]|((fail_if_success with_reducible refine Wz.h ?_);first|simp (disch:=omega) only [↓LD,LA,loadA_rf,seval,fG,fI]|((with_reducible refine And.intro ?_ ?_);omega)|simp only [D.int,D.bool]))
          exact Next.mk (k + 1) (by kernel_rfl) ⟨by omega,by rw [hl1];omega,by rw [hrs];rfl⟩ (by omega)
      · have hc:=hc1 (by rw [ha,hrs,show (decide (lstI (gt ds i).ns k < gt (gt ds i).ns k) && decide (gt (gt ds i).ns k < ds.length)) = false by simp only [Bool.and_eq_false_iff,decide_eq_false_iff_not];omega,Bool.false_and,Bool.false_and])
        by_cases hk0 : k = 0
        · subst hk0
          have hl2 : lstI (gt ds i).ns 0 = -1:=rfl
          repeat' (first|(with_reducible first|refine Wx.h ?_|refine We.h fun K hK=>?_|refine Wd.h fun K M hK hM=>?_|(refine hK _ _ _ _ ?_;clear hK K;try clear hM M)|(refine hM ?_;clear hM M;try clear hK K)|refine Wb.h fun K hK=>?_|(refine hK _ ?_;clear hK K)|(refine wT ?_ ?_;· assumption)|(refine wF ?_ ?_;· assumption))|((with_reducible refine kQ ?_ ?_);kernel_rfl)|((with_reducible refine k1 ?_ ?_);rfl)|((with_reducible refine k0 ?_ ?_);rfl)|((with_reducible apply kB)<;>first|rfl|intro h)|((with_reducible refine kM ?_ ?_);rfl)|(with_reducible refine Wq.h ?_ ?_)<;>intro h<;>try (exfalso;omega)|(with_reducible refine Wu.h ?_ ?_)<;>intro h<;>try simp only [h]|((fail_if_success with_reducible refine Wz.h ?_);first|simp (disch:=omega) only [↓LD,LA,loadA_rf,seval,fG,fI]|((with_reducible refine And.intro ?_ ?_);omega)|simp only [D.int,D.bool]))
          all_goals exact end1 rfl rfl (by kernel_rfl) .f ⟨by rw [hc];rfl,rfl⟩
        · have hl2 : lstI (gt ds i).ns k = gt (gt ds i).ns ((k : Int) - 1).toNat:=by rw [lstI,if_neg hk0,show ((k : Int) - 1).toNat = k - 1 by omega]
          repeat' (first|(with_reducible first|refine Wx.h ?_|refine We.h fun K hK=>?_|refine Wd.h fun K M hK hM=>?_|(refine hK _ _ _ _ ?_;clear hK K;try clear hM M)|(refine hM ?_;clear hM M;try clear hK K)|refine Wb.h fun K hK=>?_|(refine hK _ ?_;clear hK K)|(refine wT ?_ ?_;· assumption)|(refine wF ?_ ?_;· assumption))|((with_reducible refine kQ ?_ ?_);kernel_rfl)|((with_reducible refine k1 ?_ ?_);rfl)|((with_reducible refine k0 ?_ ?_);rfl)|((with_reducible apply kB)<;>first|rfl|intro h)|((with_reducible refine kM ?_ ?_);rfl)|(with_reducible refine Wq.h ?_ ?_)<;>intro h<;>try (exfalso;omega)|(with_reducible refine Wu.h ?_ ?_)<;>intro h<;>try simp only [h]|((fail_if_success with_reducible refine Wz.h ?_);first|simp (disch:=omega) only [↓LD,LA,loadA_rf,seval,fG,fI]|((with_reducible refine And.intro ?_ ?_);omega)|simp only [D.int,D.bool]))
          all_goals exact end1 rfl rfl (by kernel_rfl) .f ⟨by rw [hc];rfl,rfl⟩
    · rw [List.drop_of_length_le (by omega),rise] at hrs
      rw [hrs,Bool.true_and] at ha
      repeat' (first|(with_reducible first|refine Wx.h ?_|refine Wb.h fun K hK=>?_|(refine hK _ ?_;clear hK K)|(refine wT ?_ ?_;· assumption)|(refine wF ?_ ?_;· assumption))|((with_reducible refine kQ ?_ ?_);kernel_rfl)|((with_reducible refine k1 ?_ ?_);rfl)|((with_reducible refine k0 ?_ ?_);rfl)|((with_reducible apply kB)<;>first|rfl|intro h)|((with_reducible refine kM ?_ ?_);rfl)|(with_reducible refine Wq.h ?_ ?_)<;>intro h<;>try (exfalso;omega)|(with_reducible refine Wu.h ?_ ?_)<;>intro h<;>try simp only [h]|((fail_if_success with_reducible refine Wz.h ?_);first|simp (disch:=omega) only [↓LD,LA,loadA_rf,seval,fG,fI]|((with_reducible refine And.intro ?_ ?_);omega)|simp only [D.int,D.bool]))
      exact Next.mk (i + 1) (by kernel_rfl) ⟨by omega,ha⟩ (by omega)
  · rw [List.drop_of_length_le (by omega),List.all_nil] at ha
    repeat' (first|(with_reducible first|refine Wx.h ?_|refine Wb.h fun K hK=>?_|(refine hK _ ?_;clear hK K)|(refine wT ?_ ?_;· assumption)|(refine wF ?_ ?_;· assumption))|((with_reducible refine kQ ?_ ?_);kernel_rfl)|((with_reducible refine k1 ?_ ?_);rfl)|((with_reducible refine k0 ?_ ?_);rfl)|((with_reducible apply kB)<;>first|rfl|intro h)|((with_reducible refine kM ?_ ?_);rfl)|(with_reducible refine Wq.h ?_ ?_)<;>intro h<;>try (exfalso;omega)|(with_reducible refine Wu.h ?_ ?_)<;>intro h<;>try simp only [h]|((fail_if_success with_reducible refine Wz.h ?_);first|simp (disch:=omega) only [↓LD,LA,loadA_rf,seval,fG]|((with_reducible refine And.intro ?_ ?_);omega)|simp only [D.int,D.bool]))
    all_goals (refine end1 rfl rfl (by kernel_rfl) .f ⟨congrArg D.bool ?_,rfl⟩;rw [defsB,ha];simp [inI, *])
instance {ds : List Nd} {H : List Row} {K : D → List Row → Prop} [hf : Small ds] : Wa (callW Tryz.prog (.fn 55 []) [.f (fG ds)] H K) (K (.f (.v (.bool (defsB ds)))) H) :=
  ⟨fun h=>callW_pure (c_r8_rightDefs ds hf.h.1 hf.h.2) rfl rfl rfl h⟩
set_option maxHeartbeats 4000000
theorem nameB_ne {l : Bs} (h : nameB l = true) : l ≠ []:=by
  intro e;rw [e] at h;exact absurd h (by decide)
theorem rightE_iff {e : Ev} : rightE e = true ↔ ((1 ≤ e.ty ∧ e.ty ≤ 12) ∧ (1 ≤ e.id ∧ e.id ≤ 200) ∧ verB e.ver = true ∧ (0 ≤ e.time ∧ e.time ≤ 1099511627776) ∧
    (if e.ty = 2 ∨ e.ty = 3 ∨ e.ty = 4 then 0 ≤ e.node ∧ e.node ≤ 7 ∧ 1 ≤ e.n ∧ e.n ≤ 5 else e.node = 0) ∧ (if e.ty = 2 ∨ e.ty = 3 ∨ e.ty = 4 then True else if e.ty = 5 then 1 ≤ e.n ∧ e.n ≤ 1048576 else e.n = 0) ∧
    (if e.ty = 5 ∨ e.ty = 6 ∨ e.ty = 7 then nameB e.name = true else e.name = []) ∧ (e.data = [] ∨ ((e.ty = 3 ∨ e.ty = 7) ∧ e.data.length ≤ 40)) ∧ (if e.ty = 1 then defsB e.defs = true else e.defs = [])):=by
  have ht : (1 ≤ e.ty ∧ e.ty ≤ 12) ∨ ¬ (1 ≤ e.ty ∧ e.ty ≤ 12):=Classical.em _
  rcases ht with ht|ht
  · rcases (show e.ty = 1 ∨ e.ty = 2 ∨ e.ty = 3 ∨ e.ty = 4 ∨ e.ty = 5 ∨ e.ty = 6 ∨ e.ty = 7 ∨ e.ty = 8 ∨ e.ty = 9 ∨ e.ty = 10 ∨ e.ty = 11 ∨ e.ty = 12 by omega) with h|h|h|h|h|h|h|h|h|h|h|h
    all_goals
      simp [rightE,pOk,inI,numB,pNode,pN,textB,pName,pData,pDefs,h]
      try (constructor<;>(intro hh;simp_all)<;>try omega)
    all_goals exact nameB_ne hh.2.2.2.2.2.1
  · constructor
    · intro h
      simp [rightE,pOk,inI] at h
      omega
    · intro h;exact absurd h.1 ht
set_option maxRecDepth 100000 in
theorem c_r8_Right (e : Ev) (hf : FitN e.defs) (hl : e.defs.length < 1000000) (hn : e.name.length ≤ 1000000) : Con Tryz.prog 27 [evD e] [] fun r H'=>r = D.bool (rightE e) ∧ H' = []:=by
  haveI : Small e.defs:=⟨⟨hf,hl⟩⟩
  refine Con.walk good fn_r8_Right (by simp) ?_
  unfold s_r8_Right evD
  simp only [argsE]
  have hz : (0 < (e.defs.length : Int)) = (e.defs ≠ []):=by apply propext;cases e.defs<;>simp
  repeat' (first|(with_reducible first|refine Wx.h ?_|refine We.h fun K hK=>?_|refine Wd.h fun K M hK hM=>?_|(refine hK _ _ _ _ ?_;clear hK K;try clear hM M)|(refine hM ?_;clear hM M;try clear hK K)|refine Wb.h fun K hK=>?_|(refine hK _ ?_;clear hK K)|(refine wT ?_ ?_;· assumption)|(refine wF ?_ ?_;· assumption))|((with_reducible refine kQ ?_ ?_);kernel_rfl)|((with_reducible refine k1 ?_ ?_);rfl)|((with_reducible refine k0 ?_ ?_);rfl)|((with_reducible apply kB)<;>first|rfl|intro h)|((with_reducible refine kM ?_ ?_);rfl)|(with_reducible refine Wq.h ?_ ?_)<;>intro h<;>try (exfalso;omega)|(with_reducible refine Wu.h ?_ ?_)<;>intro h<;>try simp only [h]|((fail_if_success with_reducible refine Wz.h ?_);first|simp (disch:=omega) only [↓LD,LA,loadA_rf,seval,hz]|((with_reducible refine And.intro ?_ ?_);omega)|simp only [D.int,D.bool]))
  all_goals (refine end1 rfl rfl (by kernel_rfl) .f ⟨congrArg D.bool ?_,rfl⟩)
  all_goals first
    | (refine (Bool.eq_false_iff.2 fun hr=>?_).symm
       obtain ⟨a1,a2,a3,a4,a5,a6,a7,a8,a9⟩:=rightE_iff.1 hr
       first
        | omega
        | (rcases a8 with a8|a8
           · have a8' : e.data.length = 0:=by rw [a8];rfl
             first|omega|(simp_all;done)|(simp_all;omega)
           · first|omega|(simp_all;done)|(simp_all;omega)))
    | (refine (rightE_iff.2 ⟨by omega,by omega,by simp_all,by omega,by simp_all;try omega,by simp_all;try omega,by simp_all,?_,by simp_all⟩).symm
       first
        | exact .inl (List.eq_nil_of_length_eq_zero (by omega))
        | exact .inr ⟨by omega,by omega⟩)
end Go.Proofs.YtgbbpelfpagdoaaGreatDoor.Mir
