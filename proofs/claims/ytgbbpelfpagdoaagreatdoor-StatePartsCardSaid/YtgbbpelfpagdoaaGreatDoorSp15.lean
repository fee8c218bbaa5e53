/- Texts laid into one file: PlD, CLine, LnA, SpA, CSame, SmA, SmB, SmC, RgJ, CLaw12K, KnA, CLaw12P. -/
import Derived.Test.YtgbbpelfpagdoaaGreatDoorSp14
set_option linter.unusedVariables false
set_option linter.unusedSimpArgs false
namespace Go.Proofs.YtgbbpelfpagdoaaGreatDoor.Mir
open Go Go.RowKit
set_option maxHeartbeats 4000000
structure BrOk (l : List Ev) : Prop where
  fold : (foldR s0 l).1 = 0
  fit : ∀ e ∈ l,FitV e
  sig : ∀ e ∈ l,SgN e
theorem BrOk.nil : BrOk []:=⟨rfl,fun e h=>by simp at h,fun e h=>by simp at h⟩
theorem BrOk.ok {l : List Ev} (h : BrOk l) : Ok12 (foldR s0 l).2:=foldR_ok ok12_0 h.fit h.fold
theorem BrOk.id {l : List Ev} (h : BrOk l) : (foldR s0 l).2.id = l.length:=by
  have:=foldR_id h.fold
  rw [this];simp [s0]
theorem BrOk.len {l : List Ev} (h : BrOk l) : l.length ≤ 200:=by
  have h1:=h.id
  have h2:=h.ok.id
  omega
theorem foldR_right : ∀ {l : List Ev} {s : S12},(foldR s l).1 = 0 → ∀ e ∈ l,rightE e = true
  | [],_,_,e,he=>by simp at he
  | x :: l,s,h,e,he=>by
    rw [foldR] at h
    by_cases a : (applyR s x).1 = 0
    · rw [if_pos a] at h
      rcases List.mem_cons.1 he with rfl|he
      · exact (applyR_ok a).1
      · exact foldR_right h e he
    · rw [if_neg a] at h;exact absurd h a
theorem BrOk.right {l : List Ev} (h : BrOk l) {e : Ev} (he : e ∈ l) : rightE e = true:=foldR_right h.fold e he
theorem BrOk.app {l : List Ev} {p : Pn} (h : BrOk l) (hp : PnT (foldR s0 l).2 p) : BrOk (l ++ p.out):=by
  refine ⟨by rw [foldR_app h.fold,hp.ok.out],fun e he=>?_,fun e he=>?_⟩
  rotate_left
  · rcases List.mem_append.1 he with he|he
    · exact h.sig e he
    · exact hp.sg e he
  rcases List.mem_append.1 he with he|he
  · exact h.fit e he
  · exact hp.ok.fit e he
theorem BrOk.pen {l : List Ev} (h : BrOk l) (v now : Int) : PnT (foldR s0 l).2 ⟨(foldR s0 l).2,v,now,[]⟩:=⟨⟨h.ok,h.ok,rfl,fun e he=>by simp at he⟩,fun e he=>by simp at he⟩
theorem newE_ok {l : List Ev} {v now : Int} (h : newE l v now = 0) : verB v = true ∧ 0 ≤ now ∧ now ≤ 1099511627776 ∧ (foldR s0 l).2.ver ≤ v:=by
  unfold newE at h
  split at h
  · cases h
  split at h
  · cases h
  split at h
  · cases h
  split at h
  · cases h
  split at h
  · cases h
  refine ⟨?_,by omega,by omega,by omega⟩
  cases hb : verB v with
  | true=>rfl
  | false=>simp_all
theorem verB_in {v : Int} (h : verB v = true) : 1 ≤ v ∧ v ≤ 1099511627776:=by
  simp only [verB,inI,Bool.and_eq_true,decide_eq_true_eq] at h;exact h.1
set_option maxRecDepth 100000 in
theorem c_play_More (l : List Ev) (hbr : BrOk l) (steps : List Rw) (defs : List Rd) : Con Tryz.prog 15 [.f (fEv l),.f (fRw steps),.f (fR defs)] [] fun r H'=>∃ out,r = .f (fEv out) ∧ BrOk out ∧ H' = []:=by
  suffices hh : ∀ Q : D → List Row → Prop,(∀ out,BrOk out → Q (.f (fEv out)) []) → Con Tryz.prog 15 [.f (fEv l),.f (fRw steps),.f (fR defs)] [] Q from hh _ fun out h=>⟨out,rfl,h,rfl⟩
  intro Q hQ
  have hll:=hbr.len
  refine Con.walk good fn_play_More (by simp) ?_
  unfold s_play_More
  simp only [argsE]
  have hlast : ∀ k : Nat,k < l.length → 1 ≤ (gt l k).ver ∧ (gt l k).ver ≤ 1099511627776 ∧ 0 ≤ (gt l k).time ∧ (gt l k).time ≤ 1099511627776:=fun k hk=>by
    have:=rightE_iff.1 (hbr.right (gt_mem hk))
    have hv:=verB_in this.2.2.1
    exact ⟨hv.1,hv.2,this.2.2.2.1.1,this.2.2.2.1.2⟩
  have hl0:=hlast ((l.length : Int) - 1).toNat
  by_cases hz : l.length = 0
  rotate_left
  have hl1:=hl0 (by omega)
  rotate_left
  obtain rfl:=List.eq_nil_of_length_eq_zero hz
  · repeat' (first|(with_reducible first|refine Wx.h ?_|refine Wb.h fun K hK=>?_|(refine hK _ ?_;clear hK K)|(refine wT ?_ ?_;· assumption)|(refine wF ?_ ?_;· assumption))|((with_reducible refine kQ ?_ ?_);kernel_rfl)|((with_reducible refine k1 ?_ ?_);rfl)|((with_reducible refine k0 ?_ ?_);rfl)|((with_reducible apply kB)<;>first|rfl|intro h)|((with_reducible refine kM ?_ ?_);rfl)|(with_reducible refine Wq.h ?_ ?_)<;>intro h<;>try (exfalso;omega)|(with_reducible refine Wu.h ?_ ?_)<;>intro h<;>try simp only [h]|((fail_if_success with_reducible refine Wz.h ?_);first|simp (disch:=omega) only [↓LD,LA,loadA_rf,seval,LEv,at1_fEv,at2_fEv,len_fEv,Ev.cs]|((with_reducible refine And.intro ?_ ?_);omega)|simp only [D.int,D.bool]))
    refine HS.loopG [1,2,7,8,9,10] (fun x : Nat × List Ev × Int × Int=>⟨frm 88 [(1,.f (fRw steps)),(2,.f (fR defs)),(7,.sl 0 0 x.2.1.length),(8,D.int x.2.2.1),(9,D.int x.2.2.2),(10,D.int x.1)],[rEv x.2.1],[]⟩)
      (fun x=>x.1 ≤ 30 ∧ BrOk x.2.1 ∧ (0 ≤ x.2.2.1 ∧ x.2.2.1 ≤ 1099511627776) ∧ (0 ≤ x.2.2.2 ∧ x.2.2.2 ≤ 1099511627776)) (fun x=>30 - x.1) (0,[],1,0) (by kernel_rfl) ⟨by omega,BrOk.nil,⟨by dsimp only;omega,by dsimp only;omega⟩,⟨by dsimp only;omega,by dsimp only;omega⟩⟩ ?_
    clear hl0 hlast hll hbr
    rintro ⟨i,out,v,now⟩ ⟨hi,ho,hv,hnw⟩
    dsimp only at hi ho hv hnw
    have hol:=ho.len
    have hpc:=pick_in (x:=(gt steps i).c) (n:=5) (by omega)
    repeat' (first|(with_reducible first|refine Wx.h ?_|refine Wb.h fun K hK=>?_|(refine hK _ ?_;clear hK K)|(refine wT ?_ ?_;· assumption)|(refine wF ?_ ?_;· assumption))|((with_reducible refine kQ ?_ ?_);kernel_rfl)|((with_reducible refine k1 ?_ ?_);rfl)|((with_reducible refine k0 ?_ ?_);rfl)|((with_reducible apply kB)<;>first|rfl|intro h)|((with_reducible refine kM ?_ ?_);rfl)|(with_reducible refine Wq.h ?_ ?_)<;>intro h<;>try (exfalso;omega)|(with_reducible refine Wu.h ?_ ?_)<;>intro h<;>try simp only [h]|((fail_if_success with_reducible refine Wz.h ?_);first|simp (disch:=omega) only [↓LD,LA,loadA_rf,seval,slcS_fRw,idxS_fRw,len_fRw,load_fRw,Rw.cs,-loadA_rf,rEv,List.map_cons,List.map_nil]|((with_reducible refine And.intro ?_ ?_);omega)|simp only [D.int,D.bool]))
    · refine callW_emb (c_hand_Version v _ hv.1 (by omega)) [] (by kernel_rfl) rfl rfl ?_
      rintro _ _ ⟨⟨v1,rfl,hv1,hv2,hv3⟩,rfl⟩
      simp (disch:=omega) only [↓LD,LA,loadA_rf,seval,ren,List.getElem?_nil]
      repeat' (first|(with_reducible first|refine Wx.h ?_|refine Wb.h fun K hK=>?_|(refine hK _ ?_;clear hK K)|(refine wT ?_ ?_;· assumption)|(refine wF ?_ ?_;· assumption))|((with_reducible refine kQ ?_ ?_);kernel_rfl)|((with_reducible refine k1 ?_ ?_);rfl)|((with_reducible refine k0 ?_ ?_);rfl)|((with_reducible apply kB)<;>first|rfl|intro h)|((with_reducible refine kM ?_ ?_);rfl)|(with_reducible refine Wq.h ?_ ?_)<;>intro h<;>try (exfalso;omega)|(with_reducible refine Wu.h ?_ ?_)<;>intro h<;>try simp only [h]|((fail_if_success with_reducible refine Wz.h ?_);first|simp (disch:=omega) only [↓LD,LA,loadA_rf,seval,rEv]|((with_reducible refine And.intro ?_ ?_);omega)|simp only [D.int,D.bool]))
      refine callW_emb (c_pen_NewL out v1 (now + pick (gt steps i).c 5) (by omega) ho.fit) [0] (by kernel_rfl) rfl rfl ?_
      rintro _ _ ⟨hq1,hq2⟩
      by_cases hn : newE out v1 (now + pick (gt steps i).c 5) = 0
      · obtain ⟨rfl,rfl⟩:=hq2 hn
        obtain ⟨a1,a2,a3,a4⟩:=newE_ok hn
        have a5:=verB_in a1
        simp (disch:=omega) only [↓LD,LA,loadA_rf,seval,ren,List.getElem?_nil,rEv,pnB,pnD]
        repeat' (first|(with_reducible first|refine Wx.h ?_|refine Wb.h fun K hK=>?_|(refine hK _ ?_;clear hK K)|(refine wT ?_ ?_;· assumption)|(refine wF ?_ ?_;· assumption))|((with_reducible refine kQ ?_ ?_);kernel_rfl)|((with_reducible refine k1 ?_ ?_);rfl)|((with_reducible refine k0 ?_ ?_);rfl)|((with_reducible apply kB)<;>first|rfl|intro h)|((with_reducible refine kM ?_ ?_);rfl)|(with_reducible refine Wq.h ?_ ?_)<;>intro h<;>try (exfalso;omega)|(with_reducible refine Wu.h ?_ ?_)<;>intro h<;>try simp only [h]|((fail_if_success with_reducible refine Wz.h ?_);first|simp (disch:=omega) only [↓LD,LA,loadA_rf,seval,rEv,pnB,pnD]|((with_reducible refine And.intro ?_ ?_);omega)|simp only [D.int,D.bool]))
        refine callW_emb (c_play_step (foldR s0 out).2 ⟨(foldR s0 out).2,v1,now + pick (gt steps i).c 5,[]⟩ (gt steps i) defs (ho.pen _ _)) [2] (by kernel_rfl) rfl rfl ?_
        rintro _ _ ⟨rfl,p',rfl,hp'⟩
        have hpl:=hp'.ok.len
        have hap:=ho.app hp'
        simp (disch:=omega) only [↓LD,LA,loadA_rf,seval,ren,List.getElem?_nil,rEv,pnB,pnD]
        repeat' (first|(with_reducible first|refine Wx.h ?_|refine Wb.h fun K hK=>?_|(refine hK _ ?_;clear hK K)|(refine wT ?_ ?_;· assumption)|(refine wF ?_ ?_;· assumption))|((with_reducible refine kQ ?_ ?_);kernel_rfl)|((with_reducible refine k1 ?_ ?_);rfl)|((with_reducible refine k0 ?_ ?_);rfl)|((with_reducible apply kB)<;>first|rfl|intro h)|((with_reducible refine kM ?_ ?_);rfl)|(with_reducible refine Wq.h ?_ ?_)<;>intro h<;>try (exfalso;omega)|(with_reducible refine Wu.h ?_ ?_)<;>intro h<;>try simp only [h]|((fail_if_success with_reducible refine Wz.h ?_);first|simp (disch:=omega) only [↓LD,LA,loadA_rf,seval,rEv,LEv,len_fEv]|((with_reducible refine And.intro ?_ ?_);omega)|simp only [D.int,D.bool]))
        · exact Next.mk (i + 1,out,v1,now + pick (gt steps i).c 5) (by kernel_rfl) ⟨by dsimp only;omega,ho,⟨by dsimp only;omega,by dsimp only;omega⟩,⟨by dsimp only;omega,by dsimp only;omega⟩⟩ (by dsimp only;omega)
        · rw [← List.flatMap_append,← List.length_append]
          exact Next.mk (i + 1,out ++ p'.out,v1,now + pick (gt steps i).c 5) (by kernel_rfl) ⟨by dsimp only;omega,hap,⟨by dsimp only;omega,by dsimp only;omega⟩,⟨by dsimp only;omega,by dsimp only;omega⟩⟩ (by dsimp only;omega)
      · obtain ⟨rfl,rfl⟩:=hq1 hn
        simp (disch:=omega) only [↓LD,LA,loadA_rf,seval,ren,List.getElem?_nil,rEv]
        repeat' (first|(with_reducible first|refine Wx.h ?_|refine Wb.h fun K hK=>?_|(refine hK _ ?_;clear hK K)|(refine wT ?_ ?_;· assumption)|(refine wF ?_ ?_;· assumption))|((with_reducible refine kQ ?_ ?_);kernel_rfl)|((with_reducible refine k1 ?_ ?_);rfl)|((with_reducible refine k0 ?_ ?_);rfl)|((with_reducible apply kB)<;>first|rfl|intro h)|((with_reducible refine kM ?_ ?_);rfl)|(with_reducible refine Wq.h ?_ ?_)<;>intro h<;>try (exfalso;omega)|(with_reducible refine Wu.h ?_ ?_)<;>intro h<;>try simp only [h]|((fail_if_success with_reducible refine Wz.h ?_);first|simp (disch:=omega) only [↓LD,LA,loadA_rf,seval,rEv]|((with_reducible refine And.intro ?_ ?_);omega)|simp only [D.int,D.bool]))
        exact end1 rfl rfl (by kernel_rfl) (.sl (T:=42) (xs:=out.flatMap Ev.cs) rfl (fun e=>by rw [List.eq_nil_of_length_eq_zero e];rfl)) (hQ out ho)
    · exact end1 rfl rfl (by kernel_rfl) (.sl (T:=42) (xs:=out.flatMap Ev.cs) rfl (fun e=>by rw [List.eq_nil_of_length_eq_zero e];rfl)) (hQ out ho)
    · exact end1 rfl rfl (by kernel_rfl) (.sl (T:=42) (xs:=out.flatMap Ev.cs) rfl (fun e=>by rw [List.eq_nil_of_length_eq_zero e];rfl)) (hQ out ho)
    · exact end1 rfl rfl (by kernel_rfl) (.sl (T:=42) (xs:=out.flatMap Ev.cs) rfl (fun e=>by rw [List.eq_nil_of_length_eq_zero e];rfl)) (hQ out ho)
  · repeat' (first|(with_reducible first|refine Wx.h ?_|refine Wb.h fun K hK=>?_|(refine hK _ ?_;clear hK K)|(refine wT ?_ ?_;· assumption)|(refine wF ?_ ?_;· assumption))|((with_reducible refine kQ ?_ ?_);kernel_rfl)|((with_reducible refine k1 ?_ ?_);rfl)|((with_reducible refine k0 ?_ ?_);rfl)|((with_reducible apply kB)<;>first|rfl|intro h)|((with_reducible refine kM ?_ ?_);rfl)|(with_reducible refine Wq.h ?_ ?_)<;>intro h<;>try (exfalso;omega)|(with_reducible refine Wu.h ?_ ?_)<;>intro h<;>try simp only [h]|((fail_if_success with_reducible refine Wz.h ?_);first|simp (disch:=omega) only [↓LD,LA,loadA_rf,seval,LEv,at1_fEv,at2_fEv,len_fEv,Ev.cs]|((with_reducible refine And.intro ?_ ?_);omega)|simp only [D.int,D.bool]))
    refine HS.loopG [1,2,7,8,9,10] (fun x : Nat × List Ev × Int × Int=>⟨frm 88 [(1,.f (fRw steps)),(2,.f (fR defs)),(7,.sl 0 0 x.2.1.length),(8,D.int x.2.2.1),(9,D.int x.2.2.2),(10,D.int x.1)],[rEv x.2.1],[]⟩)
      (fun x=>x.1 ≤ 30 ∧ BrOk x.2.1 ∧ (0 ≤ x.2.2.1 ∧ x.2.2.1 ≤ 1099511627776) ∧ (0 ≤ x.2.2.2 ∧ x.2.2.2 ≤ 1099511627776)) (fun x=>30 - x.1) (0,l,(gt l ((l.length : Int) - 1).toNat).ver,(gt l ((l.length : Int) - 1).toNat).time) (by kernel_rfl) ⟨by omega,hbr,⟨by dsimp only;omega,by dsimp only;omega⟩,⟨by dsimp only;omega,by dsimp only;omega⟩⟩ ?_
    clear hl0 hlast hll hbr
    rintro ⟨i,out,v,now⟩ ⟨hi,ho,hv,hnw⟩
    dsimp only at hi ho hv hnw
    have hol:=ho.len
    have hpc:=pick_in (x:=(gt steps i).c) (n:=5) (by omega)
    repeat' (first|(with_reducible first|refine Wx.h ?_|refine Wb.h fun K hK=>?_|(refine hK _ ?_;clear hK K)|(refine wT ?_ ?_;· assumption)|(refine wF ?_ ?_;· assumption))|((with_reducible refine kQ ?_ ?_);kernel_rfl)|((with_reducible refine k1 ?_ ?_);rfl)|((with_reducible refine k0 ?_ ?_);rfl)|((with_reducible apply kB)<;>first|rfl|intro h)|((with_reducible refine kM ?_ ?_);rfl)|(with_reducible refine Wq.h ?_ ?_)<;>intro h<;>try (exfalso;omega)|(with_reducible refine Wu.h ?_ ?_)<;>intro h<;>try simp only [h]|((fail_if_success with_reducible refine Wz.h ?_);first|simp (disch:=omega) only [↓LD,LA,loadA_rf,seval,slcS_fRw,idxS_fRw,len_fRw,load_fRw,Rw.cs,-loadA_rf,rEv,List.map_cons,List.map_nil]|((with_reducible refine And.intro ?_ ?_);omega)|simp only [D.int,D.bool]))
    · refine callW_emb (c_hand_Version v _ hv.1 (by omega)) [] (by kernel_rfl) rfl rfl ?_
      rintro _ _ ⟨⟨v1,rfl,hv1,hv2,hv3⟩,rfl⟩
      simp (disch:=omega) only [↓LD,LA,loadA_rf,seval,ren,List.getElem?_nil]
      repeat' (first|(with_reducible first|refine Wx.h ?_|refine Wb.h fun K hK=>?_|(refine hK _ ?_;clear hK K)|(refine wT ?_ ?_;· assumption)|(refine wF ?_ ?_;· assumption))|((with_reducible refine kQ ?_ ?_);kernel_rfl)|((with_reducible refine k1 ?_ ?_);rfl)|((with_reducible refine k0 ?_ ?_);rfl)|((with_reducible apply kB)<;>first|rfl|intro h)|((with_reducible refine kM ?_ ?_);rfl)|(with_reducible refine Wq.h ?_ ?_)<;>intro h<;>try (exfalso;omega)|(with_reducible refine Wu.h ?_ ?_)<;>intro h<;>try simp only [h]|((fail_if_success with_reducible refine Wz.h ?_);first|simp (disch:=omega) only [↓LD,LA,loadA_rf,seval,rEv]|((with_reducible refine And.intro ?_ ?_);omega)|simp only [D.int,D.bool]))
      refine callW_emb (c_pen_NewL out v1 (now + pick (gt steps i).c 5) (by omega) ho.fit) [0] (by kernel_rfl) rfl rfl ?_
      rintro _ _ ⟨hq1,hq2⟩
      by_cases hn : newE out v1 (now + pick (gt steps i).c 5) = 0
      · obtain ⟨rfl,rfl⟩:=hq2 hn
        obtain ⟨a1,a2,a3,a4⟩:=newE_ok hn
        have a5:=verB_in a1
        simp (disch:=omega) only [↓LD,LA,loadA_rf,seval,ren,List.getElem?_nil,rEv,pnB,pnD]
        repeat' (first|(with_reducible first|refine Wx.h ?_|refine Wb.h fun K hK=>?_|(refine hK _ ?_;clear hK K)|(refine wT ?_ ?_;· assumption)|(refine wF ?_ ?_;· assumption))|((with_reducible refine kQ ?_ ?_);kernel_rfl)|((with_reducible refine k1 ?_ ?_);rfl)|((with_reducible refine k0 ?_ ?_);rfl)|((with_reducible apply kB)<;>first|rfl|intro h)|((with_reducible refine kM ?_ ?_);rfl)|(with_reducible refine Wq.h ?_ ?_)<;>intro h<;>try (exfalso;omega)|(with_reducible refine Wu.h ?_ ?_)<;>intro h<;>try simp only [h]|((fail_if_success with_reducible refine Wz.h ?_);first|simp (disch:=omega) only [↓LD,LA,loadA_rf,seval,rEv,pnB,pnD]|((with_reducible refine And.intro ?_ ?_);omega)|simp only [D.int,D.bool]))
        refine callW_emb (c_play_step (foldR s0 out).2 ⟨(foldR s0 out).2,v1,now + pick (gt steps i).c 5,[]⟩ (gt steps i) defs (ho.pen _ _)) [2] (by kernel_rfl) rfl rfl ?_
        rintro _ _ ⟨rfl,p',rfl,hp'⟩
        have hpl:=hp'.ok.len
        have hap:=ho.app hp'
        simp (disch:=omega) only [↓LD,LA,loadA_rf,seval,ren,List.getElem?_nil,rEv,pnB,pnD]
        repeat' (first|(with_reducible first|refine Wx.h ?_|refine Wb.h fun K hK=>?_|(refine hK _ ?_;clear hK K)|(refine wT ?_ ?_;· assumption)|(refine wF ?_ ?_;· assumption))|((with_reducible refine kQ ?_ ?_);kernel_rfl)|((with_reducible refine k1 ?_ ?_);rfl)|((with_reducible refine k0 ?_ ?_);rfl)|((with_reducible apply kB)<;>first|rfl|intro h)|((with_reducible refine kM ?_ ?_);rfl)|(with_reducible refine Wq.h ?_ ?_)<;>intro h<;>try (exfalso;omega)|(with_reducible refine Wu.h ?_ ?_)<;>intro h<;>try simp only [h]|((fail_if_success with_reducible refine Wz.h ?_);first|simp (disch:=omega) only [↓LD,LA,loadA_rf,seval,rEv,LEv,len_fEv]|((with_reducible refine And.intro ?_ ?_);omega)|simp only [D.int,D.bool]))
        · exact Next.mk (i + 1,out,v1,now + pick (gt steps i).c 5) (by kernel_rfl) ⟨by dsimp only;omega,ho,⟨by dsimp only;omega,by dsimp only;omega⟩,⟨by dsimp only;omega,by dsimp only;omega⟩⟩ (by dsimp only;omega)
        · rw [← List.flatMap_append,← List.length_append]
          exact Next.mk (i + 1,out ++ p'.out,v1,now + pick (gt steps i).c 5) (by kernel_rfl) ⟨by dsimp only;omega,hap,⟨by dsimp only;omega,by dsimp only;omega⟩,⟨by dsimp only;omega,by dsimp only;omega⟩⟩ (by dsimp only;omega)
      · obtain ⟨rfl,rfl⟩:=hq1 hn
        simp (disch:=omega) only [↓LD,LA,loadA_rf,seval,ren,List.getElem?_nil,rEv]
        repeat' (first|(with_reducible first|refine Wx.h ?_|refine Wb.h fun K hK=>?_|(refine hK _ ?_;clear hK K)|(refine wT ?_ ?_;· assumption)|(refine wF ?_ ?_;· assumption))|((with_reducible refine kQ ?_ ?_);kernel_rfl)|((with_reducible refine k1 ?_ ?_);rfl)|((with_reducible refine k0 ?_ ?_);rfl)|((with_reducible apply kB)<;>first|rfl|intro h)|((with_reducible refine kM ?_ ?_);rfl)|(with_reducible refine Wq.h ?_ ?_)<;>intro h<;>try (exfalso;omega)|(with_reducible refine Wu.h ?_ ?_)<;>intro h<;>try simp only [h]|((fail_if_success with_reducible refine Wz.h ?_);first|simp (disch:=omega) only [↓LD,LA,loadA_rf,seval,rEv]|((with_reducible refine And.intro ?_ ?_);omega)|simp only [D.int,D.bool]))
        exact end1 rfl rfl (by kernel_rfl) (.sl (T:=42) (xs:=out.flatMap Ev.cs) rfl (fun e=>by rw [List.eq_nil_of_length_eq_zero e];rfl)) (hQ out ho)
    · exact end1 rfl rfl (by kernel_rfl) (.sl (T:=42) (xs:=out.flatMap Ev.cs) rfl (fun e=>by rw [List.eq_nil_of_length_eq_zero e];rfl)) (hQ out ho)
    · exact end1 rfl rfl (by kernel_rfl) (.sl (T:=42) (xs:=out.flatMap Ev.cs) rfl (fun e=>by rw [List.eq_nil_of_length_eq_zero e];rfl)) (hQ out ho)
    · exact end1 rfl rfl (by kernel_rfl) (.sl (T:=42) (xs:=out.flatMap Ev.cs) rfl (fun e=>by rw [List.eq_nil_of_length_eq_zero e];rfl)) (hQ out ho)
theorem c_play_Branch (steps : List Rw) (defs : List Rd) : Con Tryz.prog 6 [.f (fRw steps),.f (fR defs)] [] fun r H'=>∃ out,r = .f (fEv out) ∧ BrOk out ∧ H' = []:=by
  refine Con.walk good fn_play_Branch (by simp) ?_
  unfold s_play_Branch
  simp only [argsE]
  repeat' (first|(with_reducible first|refine Wx.h ?_|refine Wb.h fun K hK=>?_|(refine hK _ ?_;clear hK K)|(refine wT ?_ ?_;· assumption)|(refine wF ?_ ?_;· assumption))|((with_reducible refine kQ ?_ ?_);kernel_rfl)|((with_reducible refine k1 ?_ ?_);rfl)|((with_reducible refine k0 ?_ ?_);rfl)|((with_reducible apply kB)<;>first|rfl|intro h)|((with_reducible refine kM ?_ ?_);rfl)|(with_reducible refine Wq.h ?_ ?_)<;>intro h<;>try (exfalso;omega)|(with_reducible refine Wu.h ?_ ?_)<;>intro h<;>try simp only [h]|((fail_if_success with_reducible refine Wz.h ?_);first|simp (disch:=omega) only [↓LD,LA,loadA_rf,seval]|((with_reducible refine And.intro ?_ ?_);omega)|simp only [D.int,D.bool]))
  refine callW_less (args0:=[.f (fEv []),.f (fRw steps),.f (fR defs)]) ?_ (.cons (.f .ns) (.cons .refl (.cons .refl .nil)))
  refine callW_emb (c_play_More [] BrOk.nil steps defs) [] (by kernel_rfl) rfl rfl ?_
  rintro _ _ ⟨out,rfl,ho,rfl⟩
  simp (disch:=omega) only [↓LD,LA,loadA_rf,seval,ren,List.getElem?_nil]
  repeat' (first|(with_reducible first|refine Wx.h ?_|refine Wb.h fun K hK=>?_|(refine hK _ ?_;clear hK K)|(refine wT ?_ ?_;· assumption)|(refine wF ?_ ?_;· assumption))|((with_reducible refine kQ ?_ ?_);kernel_rfl)|((with_reducible refine k1 ?_ ?_);rfl)|((with_reducible refine k0 ?_ ?_);rfl)|((with_reducible apply kB)<;>first|rfl|intro h)|((with_reducible refine kM ?_ ?_);rfl)|(with_reducible refine Wq.h ?_ ?_)<;>intro h<;>try (exfalso;omega)|(with_reducible refine Wu.h ?_ ?_)<;>intro h<;>try simp only [h]|((fail_if_success with_reducible refine Wz.h ?_);first|simp (disch:=omega) only [↓LD,LA,loadA_rf,seval]|((with_reducible refine And.intro ?_ ?_);omega)|simp only [D.int,D.bool]))
  exact end1 rfl rfl (by kernel_rfl) .f ⟨out,rfl,ho,rfl⟩
def s_ev_Line : SCode :=
  (jq ([.a 2 (.mv kF)]) (.seq (jq ([jm 5 0,je 6 5,jk 7 0]) (.block 0 (.loop (jq ([jB 8 .lss 7 6]) (.seq (jc 8 .skip (.exit 0)) (.seq (.block 1 (jq ([jm
 9 7,jx 10 9 5 7,jL 11 9 10,.a 4 (.alloc 42 [jI,jI,jI,jI,jI,jI,(.f (.v (.string ⟨#[]⟩))),jN,jN]),jm 3 9,.n (.store 9 (.t 4) (.t 11))])
 (.seq (jq ((ap [jL 12 9 4,.a 13 (.call (kC 26) [(.t 12)])] [.a 14 (.unot (.t 13))])) (jc 14 (jq ([.a 2 (.mv kF)]) .ret) .skip)) (.seq (.drw [jm 15 3,
 jb 16 .gtr 15 0,jm 17 16,gO 18 0 4 17 true,gL 19 18 17 true,gM 20 0 17 true,gM 21 3 17 true,jG 22 (.bin .sub (.t 21) (kI 1)) 17 true,jG 23 (.idx
 9 (.t 20) (.t 22)) 17 true,gO 24 0 23 17 true,gL 25 24 17 true,jG 26 (.bin .add (.t 25) (kI 1)) 17 true,jG 27 (.bin .neq (.t 19) (.t 26)) 17 true,
 gM 28 27 17 true,gO 29 1 4 28 false,gL 30 29 28 false,gM 31 0 28 false,gM 32 3 28 false,jG 33 (.bin .sub (.t 32) (kI 1)) 28 false,jG 34 (.idx 9
 (.t 31) (.t 33)) 28 false,gO 35 1 34 28 false,gL 36 35 28 false,jG 37 (.bin .lss (.t 30) (.t 36)) 28 false,jG 38 (.pick (.t 28) kT (.t 37)) 17
 true,gM 39 38 17 true,gO 40 2 4 39 false,gL 41 40 39 false,gM 42 0 39 false,gM 43 3 39 false,jG 44 (.bin .sub (.t 43) (kI 1)) 39 false,jG 45
 (.idx 9 (.t 42) (.t 44)) 39 false,gO 46 2 45 39 false,gL 47 46 39 false,jG 48 (.bin .lss (.t 41) (.t 47)) 39 false,jG 49 (.pick (.t 39) kT (.t 48))
 17 true,.a 50 (.pick (.t 17) (.t 49) kF)] [0,1,3,7,15,7,7,71,231,487,999,2023,4095,8191,16383,32767,16383,16383,147455,475135,
 999423,2047999,4194303,8388607,16777215,33554431,67108863,33554431,33554431,301989887,973078527,2046820351,4194303999,8589934591,
 17179869183,34359738367]) (jc 50 (jq ([.a 2 (.mv kF)]) .ret) .skip))))) (.ops [jb 51 .add 7 1,jm 7 51]))))))) (jq ([.a 2 (.mv kT)]) .ret)))
theorem fn_ev_Line : Fn Tryz.prog 13 52 [.t 2] s_ev_Line:=.of Tryz.func13 (by kernel_rfl)
set_option maxHeartbeats 4000000
theorem fold_line : ∀ {l : List Ev} {s : S12},(foldR s l).1 = 0 → (∀ e,l.head? = some e → e.id = s.id + 1 ∧ s.ver ≤ e.ver ∧ s.time ≤ e.time) ∧ ∀ i,i + 1 < l.length → (gt l (i + 1)).id = (gt l i).id + 1 ∧ (gt l i).ver ≤ (gt l (i + 1)).ver ∧ (gt l i).time ≤ (gt l (i + 1)).time
  | [],_,_=>⟨by simp,by simp⟩
  | e :: l,s,h=>by
    rw [foldR] at h
    by_cases a : (applyR s e).1 = 0
    · rw [if_pos a] at h
      obtain ⟨a1,a2,a3,a4,a5,a6,a7,a8⟩:=applyR_ok a
      have ih:=fold_line h
      refine ⟨fun e' he=>?_,fun i hi=>?_⟩
      · cases he;exact ⟨a2,a3,a4⟩
      · cases i with
        | zero =>
          cases l with
          | nil=>simp at hi
          | cons x l =>
            have:=ih.1 x rfl
            rw [a8] at this
            simpa [gt] using this
        | succ i =>
          have:=ih.2 i (by simpa using hi)
          simpa [gt] using this
    · rw [if_neg a] at h;exact absurd h a
set_option maxRecDepth 100000 in
theorem c_ev_Line (l : List Ev) (hb : BrOk l) : Con Tryz.prog 13 [.f (fEv l)] [] fun r H'=>r = D.bool true ∧ H' = []:=by
  have hl:=hb.len
  have hr:=foldR_right hb.fold
  have hn:=(fold_line hb.fold).2
  refine Con.walk good fn_ev_Line (by simp) ?_
  unfold s_ev_Line
  simp only [argsE]
  repeat' (first|(with_reducible first|refine Wx.h ?_|refine Wb.h fun K hK=>?_|(refine hK _ ?_;clear hK K)|(refine wT ?_ ?_;· assumption)|(refine wF ?_ ?_;· assumption))|((with_reducible refine kQ ?_ ?_);kernel_rfl)|((with_reducible refine k1 ?_ ?_);rfl)|((with_reducible refine k0 ?_ ?_);rfl)|((with_reducible apply kB)<;>first|rfl|intro h)|((with_reducible refine kM ?_ ?_);rfl)|(with_reducible refine Wq.h ?_ ?_)<;>intro h<;>try (exfalso;omega)|(with_reducible refine Wu.h ?_ ?_)<;>intro h<;>try simp only [h]|((fail_if_success with_reducible refine Wz.h ?_);first|simp (disch:=omega) only [↓LD,LA,loadA_rf,seval,LEv]|((with_reducible refine And.intro ?_ ?_);omega)|simp only [D.int,D.bool]))
  refine HS.loopG [0,5,6,7] (fun i : Nat=>⟨frm 52 [(0,.f (fEv l)),(5,.f (fEv l)),(6,D.int l.length),(7,D.int i)],[],[]⟩) (fun i=>i ≤ l.length) (fun i=>l.length - i) 0 (by kernel_rfl) (Nat.zero_le _) ?_
  intro i hi
  by_cases hil : i < l.length
  rotate_left
  · repeat' (first|(with_reducible first|refine Wx.h ?_|refine Wb.h fun K hK=>?_|(refine hK _ ?_;clear hK K)|(refine wT ?_ ?_;· assumption)|(refine wF ?_ ?_;· assumption))|((with_reducible refine kQ ?_ ?_);kernel_rfl)|((with_reducible refine k1 ?_ ?_);rfl)|((with_reducible refine k0 ?_ ?_);rfl)|((with_reducible apply kB)<;>first|rfl|intro h)|((with_reducible refine kM ?_ ?_);rfl)|(with_reducible refine Wq.h ?_ ?_)<;>intro h<;>try (exfalso;omega)|(with_reducible refine Wu.h ?_ ?_)<;>intro h<;>try simp only [h]|((fail_if_success with_reducible refine Wz.h ?_);first|simp (disch:=omega) only [↓LD,LA,loadA_rf,seval]|((with_reducible refine And.intro ?_ ?_);omega)|simp only [D.int,D.bool]))
    exact end1 rfl rfl (by kernel_rfl) .f ⟨rfl,rfl⟩
  have hre:=hr _ (gt_mem hil)
  have hfi:=hb.fit _ (gt_mem hil)
  rcases i with _|i
  · have h0 : ∀ H : List Row,loadA H 9 (.rf (l.flatMap Ev.cs)) = some (.ag ((Ev.cs (gt l 0)).map .f)):=fun H=>by have:=load_fEv (H:=H) (g:=l) (k:=0) hil;simpa using this
    repeat' (first|(with_reducible first|refine Wx.h ?_|refine We.h fun K hK=>?_|refine Wd.h fun K M hK hM=>?_|(refine hK _ _ _ _ ?_;clear hK K;try clear hM M)|(refine hM ?_;clear hM M;try clear hK K)|refine Wb.h fun K hK=>?_|(refine hK _ ?_;clear hK K)|(refine wT ?_ ?_;· assumption)|(refine wF ?_ ?_;· assumption))|((with_reducible refine kQ ?_ ?_);kernel_rfl)|((with_reducible refine k1 ?_ ?_);rfl)|((with_reducible refine k0 ?_ ?_);rfl)|((with_reducible apply kB)<;>first|rfl|intro h)|((with_reducible refine kM ?_ ?_);rfl)|(with_reducible refine Wq.h ?_ ?_)<;>intro h<;>try (exfalso;omega)|(with_reducible refine Wu.h ?_ ?_)<;>intro h<;>try simp only [h]|((fail_if_success with_reducible refine Wz.h ?_);first|simp (disch:=omega) only [↓LD,LA,loadA_rf,seval,LEv,h0,len_fEv,Ev.cs,-loadA_rf]|((with_reducible refine And.intro ?_ ?_);omega)|simp only [D.int,D.bool]))
    refine callW_pure (c_ev_Right (gt l 0) hfi.2.2.2 (by have:=hfi.2.2.1;omega)) rfl rfl rfl ?_
    rw [hre]
    repeat' (first|(with_reducible first|refine Wx.h ?_|refine We.h fun K hK=>?_|refine Wd.h fun K M hK hM=>?_|(refine hK _ _ _ _ ?_;clear hK K;try clear hM M)|(refine hM ?_;clear hM M;try clear hK K)|refine Wb.h fun K hK=>?_|(refine hK _ ?_;clear hK K)|(refine wT ?_ ?_;· assumption)|(refine wF ?_ ?_;· assumption))|((with_reducible refine kQ ?_ ?_);kernel_rfl)|((with_reducible refine k1 ?_ ?_);rfl)|((with_reducible refine k0 ?_ ?_);rfl)|((with_reducible apply kB)<;>first|rfl|intro h)|((with_reducible refine kM ?_ ?_);rfl)|(with_reducible refine Wq.h ?_ ?_)<;>intro h<;>try (exfalso;omega)|(with_reducible refine Wu.h ?_ ?_)<;>intro h<;>try simp only [h]|((fail_if_success with_reducible refine Wz.h ?_);first|simp (disch:=omega) only [↓LD,LA,loadA_rf,seval,LEv]|((with_reducible refine And.intro ?_ ?_);omega)|simp only [D.int,D.bool]))
    exact Next.mk 1 (by kernel_rfl) (by omega) (by omega)
  · obtain ⟨e1,e2,e3⟩:=hn i hil
    repeat' (first|(with_reducible first|refine Wx.h ?_|refine We.h fun K hK=>?_|refine Wd.h fun K M hK hM=>?_|(refine hK _ _ _ _ ?_;clear hK K;try clear hM M)|(refine hM ?_;clear hM M;try clear hK K)|refine Wb.h fun K hK=>?_|(refine hK _ ?_;clear hK K)|(refine wT ?_ ?_;· assumption)|(refine wF ?_ ?_;· assumption))|((with_reducible refine kQ ?_ ?_);kernel_rfl)|((with_reducible refine k1 ?_ ?_);rfl)|((with_reducible refine k0 ?_ ?_);rfl)|((with_reducible apply kB)<;>first|rfl|intro h)|((with_reducible refine kM ?_ ?_);rfl)|(with_reducible refine Wq.h ?_ ?_)<;>intro h<;>try (exfalso;omega)|(with_reducible refine Wu.h ?_ ?_)<;>intro h<;>try simp only [h]|((fail_if_success with_reducible refine Wz.h ?_);first|simp (disch:=omega) only [↓LD,LA,loadA_rf,seval,LEv,load_fEv,len_fEv,Ev.cs,-loadA_rf]|((with_reducible refine And.intro ?_ ?_);omega)|simp only [D.int,D.bool]))
    refine callW_pure (c_ev_Right (gt l (i + 1)) hfi.2.2.2 (by have:=hfi.2.2.1;omega)) rfl rfl rfl ?_
    rw [hre]
    have hid:=(rightE_iff.1 (hr _ (gt_mem (l:=l) (k:=i) (by omega)))).2.1
    have hi1 : ((i + 1 : Nat) : Int) - 1 = (i : Int):=by omega
    repeat' (first|(with_reducible first|refine Wx.h ?_|refine We.h fun K hK=>?_|refine Wd.h fun K M hK hM=>?_|(refine hK _ _ _ _ ?_;clear hK K;try clear hM M)|(refine hM ?_;clear hM M;try clear hK K)|refine Wb.h fun K hK=>?_|(refine hK _ ?_;clear hK K)|(refine wT ?_ ?_;· assumption)|(refine wF ?_ ?_;· assumption))|((with_reducible refine kQ ?_ ?_);kernel_rfl)|((with_reducible refine k1 ?_ ?_);rfl)|((with_reducible refine k0 ?_ ?_);rfl)|((with_reducible apply kB)<;>first|rfl|intro h)|((with_reducible refine kM ?_ ?_);rfl)|(with_reducible refine Wq.h ?_ ?_)<;>intro h<;>try (exfalso;omega)|(with_reducible refine Wu.h ?_ ?_)<;>intro h<;>try simp only [h]|((fail_if_success with_reducible refine Wz.h ?_);first|simp (disch:=omega) only [↓LD,LA,loadA_rf,seval,LEv,at0_fEv,at1_fEv,at2_fEv,len_fEv,Ev.cs,hi1,Int.toNat_natCast]|((with_reducible refine And.intro ?_ ?_);omega)|simp only [D.int,D.bool]))
    exact Next.mk (i + 1 + 1) (by kernel_rfl) (by omega) (by omega)
theorem foldR_part : ∀ {b : List Ev} {s : S12} {i : Nat},(foldR s b).1 = 0 → (foldR s (b.take i)).1 = 0
  | [],s,i,h=>by simpa using h
  | e :: b,s,0,h=>rfl
  | e :: b,s,i + 1,h=>by
    rw [List.take_succ_cons,foldR]
    rw [foldR] at h
    by_cases a : (applyR s e).1 = 0
    · rw [if_pos a] at h ⊢;exact foldR_part h
    · rw [if_neg a] at h;exact absurd h a
theorem foldR_more : ∀ {b : List Ev} {s : S12} {i : Nat},i < b.length → (foldR s b).1 = 0 → applyR (foldR s (b.take i)).2 (gt b i) = foldR s (b.take (i + 1))
  | [],s,i,hi,h=>by simp at hi
  | e :: b,s,0,hi,h=>by
    rw [foldR] at h
    by_cases a : (applyR s e).1 = 0
    · show applyR s (gt (e :: b) 0) = foldR s [e]
      rw [foldR,if_pos a,show gt (e :: b) 0 = e from rfl,foldR]
      exact Prod.ext a rfl
    · rw [if_neg a] at h;exact absurd h a
  | e :: b,s,i + 1,hi,h=>by
    rw [foldR] at h
    by_cases a : (applyR s e).1 = 0
    · rw [if_pos a] at h
      rw [List.take_succ_cons,List.take_succ_cons,foldR,foldR,if_pos a,if_pos a]
      have:=foldR_more (b:=b) (s:=(applyR s e).2) (i:=i) (by simpa using hi) h
      simpa [gt] using this
    · rw [if_neg a] at h;exact absurd h a
def s_st_Same : SCode :=
  (jq ([.a 2 (.box 29 (.t 0)),.a 3 (.box 29 (.t 1)),.a 4 (.mv kF)]) (jq ((ap [jo 5 0 2,jl 6 5,jo 7 0 3,jl 8 7,jB 9 .eql 6 8] (ap [jm 10 9,gO 11 1
 2 10 true] (ap [gL 12 11 10 true,gO 13 1 3 10 true,gL 14 13 10 true,jG 15 (.bin .eql (.t 12) (.t 14)) 10 true] (ap [.a 16 (.pick (.t 10) (.t 15)
 kF),jm 17 16,gO 18 2 2 17 true] (ap [gL 19 18 17 true,gO 20 2 3 17 true,gL 21 20 17 true,jG 22 (.bin .eql (.t 19) (.t 21)) 17 true] (ap [.a 23
 (.pick (.t 17) (.t 22) kF),jm 24 23,gO 25 3 2 24 true] (ap [gL 26 25 24 true,gO 27 3 3 24 true,gL 28 27 24 true,jG 29 (.bin .eql (.t 26) (.t 28))
 24 true] (ap [.a 30 (.pick (.t 24) (.t 29) kF),jm 31 30,gO 32 4 2 31 true] (ap [gL 33 32 31 true,gO 34 4 3 31 true,gL 35 34 31 true,jG 36 (.binb
 .eql (.t 33) (.t 35)) 31 true,.a 37 (.pick (.t 31) (.t 36) kF),jm 38 37,gO 39 5 2 38 true] (ap [gL 40 39 38 true,jG 41 (.bld [jI,jI,jI,jI,jI,
 jI,(.f (.v (.string ⟨#[]⟩))),jN,jN] [(8,1,(.t 40))]) 38 true,gO 42 5 3 38 true,gL 43 42 38 true,jG 44 (.bld [jI,jI,jI,jI,jI,jI,(.f (.v
 (.string ⟨#[]⟩))),jN,jN] [(8,1,(.t 43))]) 38 true,jG 45 (.call (kC 17) [(.t 41),(.t 44)]) 38 true] (ap [.a 46 (.pick (.t 38) (.t 45) kF),jm 47
 46,gO 48 6 2 47 true] (ap [gL 49 48 47 true,gO 50 6 3 47 true,gL 51 50 47 true,jG 52 (.call (kC 18) [(.t 49),(.t 51),(kC 19)]) 47 true] (ap [.a
 53 (.pick (.t 47) (.t 52) kF),jm 54 53,gO 55 7 2 54 true] (ap [gL 56 55 54 true,gO 57 7 3 54 true,gL 58 57 54 true,jG 59 (.call (kC 20) [(.t 56),
 (.t 58)]) 54 true] (ap [.a 60 (.pick (.t 54) (.t 59) kF),jm 61 60,gO 62 8 2 61 true] (ap [gL 63 62 61 true,gO 64 8 3 61 true,gL 65 64 61 true,jG
 66 (.call (kC 21) [(.t 63),(.t 65),(kC 22)]) 61 true] [.a 67 (.pick (.t 61) (.t 66) kF),jm 4 67]))))))))))))))))) .ret))
theorem fn_st_Same : Fn Tryz.prog 9 68 [.t 4] s_st_Same:=.of Tryz.func9 (by kernel_rfl)
def s_ev_Same : SCode :=
  (jq ([.a 2 (.box 42 (.t 0)),.a 3 (.box 42 (.t 1)),.a 4 (.mv kF)]) (jq ((ap [jo 5 0 2,jl 6 5,jo 7 0 3,jl 8 7,jB 9 .eql 6 8] (ap [jm 10 9,gO 11 1
 2 10 true] (ap [gL 12 11 10 true,gO 13 1 3 10 true,gL 14 13 10 true,jG 15 (.bin .eql (.t 12) (.t 14)) 10 true] (ap [.a 16 (.pick (.t 10) (.t 15)
 kF),jm 17 16,gO 18 2 2 17 true] (ap [gL 19 18 17 true,gO 20 2 3 17 true,gL 21 20 17 true,jG 22 (.bin .eql (.t 19) (.t 21)) 17 true] (ap [.a 23
 (.pick (.t 17) (.t 22) kF),jm 24 23,gO 25 3 2 24 true] (ap [gL 26 25 24 true,gO 27 3 3 24 true,gL 28 27 24 true,jG 29 (.bin .eql (.t 26) (.t 28))
 24 true] (ap [.a 30 (.pick (.t 24) (.t 29) kF),jm 31 30,gO 32 4 2 31 true] (ap [gL 33 32 31 true,gO 34 4 3 31 true,gL 35 34 31 true,jG 36 (.bin
 .eql (.t 33) (.t 35)) 31 true] (ap [.a 37 (.pick (.t 31) (.t 36) kF),jm 38 37,gO 39 5 2 38 true] (ap [gL 40 39 38 true,gO 41 5 3 38 true,gL 42 41
 38 true,jG 43 (.bin .eql (.t 40) (.t 42)) 38 true] (ap [.a 44 (.pick (.t 38) (.t 43) kF),jm 45 44,gO 46 6 2 45 true] (ap [gL 47 46 45 true,gO 48 6
 3 45 true,gL 49 48 45 true,jG 50 (.bin .eql (.t 47) (.t 49)) 45 true] (ap [.a 51 (.pick (.t 45) (.t 50) kF),jm 52 51,gO 53 7 2 52 true] (ap [gL 54
 53 52 true,gO 55 7 3 52 true,gL 56 55 52 true,jG 57 (.call (kC 37) [(.t 54),(.t 56)]) 52 true] (ap [.a 58 (.pick (.t 52) (.t 57) kF),jm 59 58,gO
 60 8 2 59 true] (ap [gL 61 60 59 true,gO 62 8 3 59 true,gL 63 62 59 true,jG 64 (.call (kC 38) [(.t 61),(.t 63),(kC 39)]) 59 true] [.a 65 (.pick
 (.t 59) (.t 64) kF),jm 4 65])))))))))))))))))) .ret))
theorem fn_ev_Same : Fn Tryz.prog 17 66 [.t 4] s_ev_Same:=.of Tryz.func17 (by kernel_rfl)
def s_nd_EqualFunc : SCode :=
  (jq ([.a 6 (.mv kF)]) (.seq (jq ([jm 10 0,je 11 10,jm 12 1,je 13 12,jB 14 .neq 11 13]) (jc 14 (jq ([.a 6 (.mv kF)]) .ret) .skip)) (.seq (jq ([jm 15
 0,je 16 15,jk 17 0]) (.block 0 (.loop (jq ([jB 18 .lss 17 16]) (.seq (jc 18 .skip (.exit 0)) (.seq (.block 1 (jq ([jm 19 17,jx 20 4 15 17,jL 21 4
 20,.a 8 (.alloc 51 [jI,jI,jI,jN]),jm 7 19,.n (.store 4 (.t 8) (.t 21))]) (jq ([jm 22 1,jm 23 7,jx 24 4 22 23,jL 25 4 24,.a 9 (.alloc 51 [jI,
 jI,jI,jN]),.n (.store 4 (.t 9) (.t 25))]) (jq ((ap [jm 26 2,jL 27 4 8,jL 28 4 9,.a 29 (.call (.t 26) [(.t 27),(.t 28)])] [.a 30 (.unot (.t
 29))])) (jc 30 (jq ([.a 6 (.mv kF)]) .ret) .skip))))) (.ops [jb 31 .add 17 1,jm 17 31]))))))) (jq ([.a 6 (.mv kT)]) .ret))))
theorem fn_nd_EqualFunc : Fn Tryz.prog 18 32 [.t 6] s_nd_EqualFunc:=.of Tryz.func18 (by kernel_rfl)
def s_st_sameNode : SCode :=
  (jq ([.a 2 (.box 51 (.t 0)),.a 3 (.box 51 (.t 1)),.a 4 (.mv kF)]) (jq ((ap [jo 5 0 2,jl 6 5,jo 7 0 3,jl 8 7,jB 9 .eql 6 8] (ap [jm 10 9,gO 11 1
 2 10 true] (ap [gL 12 11 10 true,gO 13 1 3 10 true,gL 14 13 10 true,jG 15 (.bin .eql (.t 12) (.t 14)) 10 true] (ap [.a 16 (.pick (.t 10) (.t 15)
 kF),jm 17 16,gO 18 2 2 17 true] (ap [gL 19 18 17 true,gO 20 2 3 17 true,gL 21 20 17 true,jG 22 (.bin .eql (.t 19) (.t 21)) 17 true] (ap [.a 23
 (.pick (.t 17) (.t 22) kF),jm 24 23,gO 25 3 2 24 true] (ap [gL 26 25 24 true,gO 27 3 3 24 true,gL 28 27 24 true,jG 29 (.call (kC 40) [(.t 26),(.t
 28)]) 24 true] [.a 30 (.pick (.t 24) (.t 29) kF),jm 4 30])))))))) .ret))
theorem fn_st_sameNode : Fn Tryz.prog 19 31 [.t 4] s_st_sameNode:=.of Tryz.func19 (by kernel_rfl)
def s_tm_Equal : SCode :=
  (jq ([.a 4 (.mv kF)]) (.seq (jq ([jm 6 0,je 7 6,jm 8 1,je 9 8,jB 10 .neq 7 9]) (jc 10 (jq ([.a 4 (.mv kF)]) .ret) .skip)) (.seq (jq ([jm 11 0,je
 12 11,jk 13 0]) (.block 0 (.loop (jq ([jB 14 .lss 13 12]) (.seq (jc 14 .skip (.exit 0)) (.seq (.block 1 (jq ([jm 15 13,jm 5 15]) (.seq (.drw [jm 16
 0,jm 17 5,jx 18 3 16 17,jL 19 3 18,jm 20 1,jm 21 5,jx 22 3 20 21,jL 23 3 22,.a 24 (.aeq false [1,0,2] (.t 19) (.t 23))] [0,0,3,7,0,0,
 48,112,255]) (jc 24 (jq ([.a 4 (.mv kF)]) .ret) .skip)))) (.ops [jb 25 .add 13 1,jm 13 25]))))))) (jq ([.a 4 (.mv kT)]) .ret))))
theorem fn_tm_Equal : Fn Tryz.prog 20 26 [.t 4] s_tm_Equal:=.of Tryz.func20 (by kernel_rfl)
def s_sg_EqualFunc : SCode :=
  (jq ([.a 6 (.mv kF)]) (.seq (jq ([jm 10 0,je 11 10,jm 12 1,je 13 12,jB 14 .neq 11 13]) (jc 14 (jq ([.a 6 (.mv kF)]) .ret) .skip)) (.seq (jq ([jm 15
 0,je 16 15,jk 17 0]) (.block 0 (.loop (jq ([jB 18 .lss 17 16]) (.seq (jc 18 .skip (.exit 0)) (.seq (.block 1 (jq ([jm 19 17,jx 20 3 15 17,jL 21 3
 20,.a 8 (.alloc 60 [(.f (.v (.string ⟨#[]⟩))),jI,jN]),jm 7 19,.n (.store 3 (.t 8) (.t 21))]) (jq ([jm 22 1,jm 23 7,jx 24 3 22 23,jL 25 3 24,.a
 9 (.alloc 60 [(.f (.v (.string ⟨#[]⟩))),jI,jN]),.n (.store 3 (.t 9) (.t 25))]) (jq ((ap [jm 26 2,jL 27 3 8,jL 28 3 9,.a 29 (.call (.t 26) [(.t
 27),(.t 28)])] [.a 30 (.unot (.t 29))])) (jc 30 (jq ([.a 6 (.mv kF)]) .ret) .skip))))) (.ops [jb 31 .add 17 1,jm 17 31]))))))) (jq ([.a 6 (.mv kT)])
 .ret))))
theorem fn_sg_EqualFunc : Fn Tryz.prog 21 32 [.t 6] s_sg_EqualFunc:=.of Tryz.func21 (by kernel_rfl)
def s_st_sameSignal : SCode :=
  (jq ([.a 2 (.box 60 (.t 0)),.a 3 (.box 60 (.t 1)),.a 4 (.mv kF)]) (jq ((ap [jo 5 0 2,jl 6 5,jo 7 0 3,jl 8 7,jB 9 .eql 6 8] (ap [jm 10 9,gO 11 1
 2 10 true] (ap [gL 12 11 10 true,gO 13 1 3 10 true,gL 14 13 10 true,jG 15 (.bin .eql (.t 12) (.t 14)) 10 true] (ap [.a 16 (.pick (.t 10) (.t 15)
 kF),jm 17 16,gO 18 2 2 17 true] (ap [gL 19 18 17 true,gO 20 2 3 17 true,gL 21 20 17 true,jG 22 (.call (kC 40) [(.t 19),(.t 21)]) 17 true] [.a 23
 (.pick (.t 17) (.t 22) kF),jm 4 23])))))) .ret))
theorem fn_st_sameSignal : Fn Tryz.prog 22 24 [.t 4] s_st_sameSignal:=.of Tryz.func22 (by kernel_rfl)
def s_by_Equal : SCode :=
  (jq ([.a 4 (.mv kF)]) (.seq (jq ([jm 6 0,je 7 6,jm 8 1,je 9 8,jB 10 .neq 7 9]) (jc 10 (jq ([.a 4 (.mv kF)]) .ret) .skip)) (.seq (jq ([jm 11 0,je
 12 11,jk 13 0]) (.block 0 (.loop (jq ([jB 14 .lss 13 12]) (.seq (jc 14 .skip (.exit 0)) (.seq (.block 1 (jq ([jm 15 13,jm 5 15]) (.seq (.drw [jm 16
 0,jm 17 5,jx 18 1 16 17,jl 19 18,jm 20 1,jm 21 5,jx 22 1 20 21,jl 23 22,jB 24 .neq 19 23] [0,0,3,7,0,0,48,112,255]) (jc 24 (jq ([.a 4
 (.mv kF)]) .ret) .skip)))) (.ops [jb 25 .add 13 1,jm 13 25]))))))) (jq ([.a 4 (.mv kT)]) .ret))))
theorem fn_by_Equal : Fn Tryz.prog 37 26 [.t 4] s_by_Equal:=.of Tryz.func37 (by kernel_rfl)
def s_df_EqualFunc : SCode :=
  (jq ([.a 6 (.mv kF)]) (.seq (jq ([jm 10 0,je 11 10,jm 12 1,je 13 12,jB 14 .neq 11 13]) (jc 14 (jq ([.a 6 (.mv kF)]) .ret) .skip)) (.seq (jq ([jm 15
 0,je 16 15,jk 17 0]) (.block 0 (.loop (jq ([jB 18 .lss 17 16]) (.seq (jc 18 .skip (.exit 0)) (.seq (.block 1 (jq ([jm 19 17,jx 20 3 15 17,jL 21 3
 20,.a 8 (.alloc 48 [jN,jI,jI]),jm 7 19,.n (.store 3 (.t 8) (.t 21))]) (jq ([jm 22 1,jm 23 7,jx 24 3 22 23,jL 25 3 24,.a 9 (.alloc 48 [jN,jI,
 jI]),.n (.store 3 (.t 9) (.t 25))]) (jq ((ap [jm 26 2,jL 27 3 8,jL 28 3 9,.a 29 (.call (.t 26) [(.t 27),(.t 28)])] [.a 30 (.unot (.t 29))])) (jc
 30 (jq ([.a 6 (.mv kF)]) .ret) .skip))))) (.ops [jb 31 .add 17 1,jm 17 31]))))))) (jq ([.a 6 (.mv kT)]) .ret))))
theorem fn_df_EqualFunc : Fn Tryz.prog 38 32 [.t 6] s_df_EqualFunc:=.of Tryz.func38 (by kernel_rfl)
def s_ev_sameDef : SCode :=
  (jq ([.a 2 (.box 48 (.t 0)),.a 3 (.box 48 (.t 1)),.a 4 (.mv kF)]) (jq ((ap [jo 5 0 2,jl 6 5,jo 7 0 3,jl 8 7,.a 9 (.call (kC 71) [(.t 6),(.t
 8)])] (ap [jm 10 9,gO 11 1 2 10 true] (ap [gL 12 11 10 true,gO 13 1 3 10 true,gL 14 13 10 true,jG 15 (.bin .eql (.t 12) (.t 14)) 10 true] (ap [.a
 16 (.pick (.t 10) (.t 15) kF),jm 17 16,gO 18 2 2 17 true] (ap [gL 19 18 17 true,gO 20 2 3 17 true,gL 21 20 17 true,jG 22 (.bin .eql (.t 19) (.t
 21)) 17 true] [.a 23 (.pick (.t 17) (.t 22) kF),jm 4 23])))))) .ret))
theorem fn_ev_sameDef : Fn Tryz.prog 39 24 [.t 4] s_ev_sameDef:=.of Tryz.func39 (by kernel_rfl)
def s_bytes_Equal : SCode :=
  (jq ([.a 4 (.mv kF)]) (jq ((ap [jm 5 0,.a 6 (.b2s (.t 5)),jm 7 1,.a 8 (.b2s (.t 7)),jB 9 .eql 6 8] [jm 4 9])) .ret))
theorem fn_bytes_Equal : Fn Tryz.prog 40 10 [.t 4] s_bytes_Equal:=.of Tryz.func40 (by kernel_rfl)
def s_int_Equal : SCode :=
  (jq ([.a 4 (.mv kF)]) (.seq (jq ([jm 6 0,je 7 6,jm 8 1,je 9 8,jB 10 .neq 7 9]) (jc 10 (jq ([.a 4 (.mv kF)]) .ret) .skip)) (.seq (jq ([jm 11 0,je
 12 11,jk 13 0]) (.block 0 (.loop (jq ([jB 14 .lss 13 12]) (.seq (jc 14 .skip (.exit 0)) (.seq (.block 1 (jq ([jm 15 13,jm 5 15]) (.seq (.drw [jm 16
 0,jm 17 5,jx 18 1 16 17,jl 19 18,jm 20 1,jm 21 5,jx 22 1 20 21,jl 23 22,jB 24 .neq 19 23] [0,0,3,7,0,0,48,112,255]) (jc 24 (jq ([.a 4
 (.mv kF)]) .ret) .skip)))) (.ops [jb 25 .add 13 1,jm 13 25]))))))) (jq ([.a 4 (.mv kT)]) .ret))))
theorem fn_int_Equal : Fn Tryz.prog 71 26 [.t 4] s_int_Equal:=.of Tryz.func71 (by kernel_rfl)
set_option maxHeartbeats 4000000
noncomputable def eqB {α : Type} (a b : α) : Bool:=@decide (a = b) (Classical.propDecidable _)
theorem eqB_t {α : Type} {a b : α} (h : a = b) : eqB a b = true:=by simp [eqB,h]
theorem eqB_f {α : Type} {a b : α} (h : ¬ a = b) : eqB a b = false:=by simp [eqB,h]
theorem eqB_len {α : Type} {a b : List α} (h : ¬ (a.length : Int) = b.length) : eqB a b = false:=eqB_f fun e=>h (by rw [e])
theorem eqB_end {α : Type} {a b : List α} {i : Nat} (hl : (a.length : Int) = b.length) (h : a.take i = b.take i) (hi : ¬ (i : Int) < a.length) : eqB a b = true:=eqB_t (by
  rwa [List.take_of_length_le (by omega),List.take_of_length_le (by omega)] at h)
theorem take_step {α : Type} [Inhabited α] {a b : List α} {i : Nat} (hl : (a.length : Int) = b.length) (hi : i < a.length) (h : a.take i = b.take i) (e : gt a i = gt b i) : a.take (i + 1) = b.take (i + 1):=by
  rw [List.take_succ_eq_append_getElem hi,List.take_succ_eq_append_getElem (by omega),h,← gt_eq hi,← gt_eq (by omega),e]
theorem eqB_at {α : Type} [Inhabited α] {a b : List α} {i : Nat} (e : ¬ gt a i = gt b i) : eqB a b = false:=eqB_f fun h=>e (by rw [h])
theorem c_nd_EqualFunc (l m : List Nn) (g : FuncId) (hl : l.length ≤ 1000000) (hm : m.length ≤ 1000000)
    (hf : ∀ x ∈ l,∀ y ∈ m,Con Tryz.prog g [.ag (x.cs.map .f),.ag (y.cs.map .f)] [] fun r H'=>r = D.bool (eqB x y) ∧ H' = []) :
    Con Tryz.prog 18 [.f (fNn l),.f (fNn m),.fn g []] [] fun r H'=>r = D.bool (eqB l m) ∧ H' = []:=by
  refine Con.walk good fn_nd_EqualFunc (by simp) ?_
  unfold s_nd_EqualFunc
  simp only [argsE]
  by_cases hlm : (l.length : Int) = m.length
  rotate_left
  · repeat' (first|(with_reducible first|refine Wx.h ?_|refine Wb.h fun K hK=>?_|(refine hK _ ?_;clear hK K)|(refine wT ?_ ?_;· assumption)|(refine wF ?_ ?_;· assumption))|((with_reducible refine kQ ?_ ?_);kernel_rfl)|((with_reducible refine k1 ?_ ?_);rfl)|((with_reducible refine k0 ?_ ?_);rfl)|((with_reducible apply kB)<;>first|rfl|intro h)|((with_reducible refine kM ?_ ?_);rfl)|(with_reducible refine Wq.h ?_ ?_)<;>intro h<;>try (exfalso;omega)|(with_reducible refine Wu.h ?_ ?_)<;>intro h<;>try simp only [h]|((fail_if_success with_reducible refine Wz.h ?_);first|simp (disch:=omega) only [↓LD,LA,loadA_rf,seval,LSt]|((with_reducible refine And.intro ?_ ?_);omega)|simp only [D.int,D.bool]))
    rw [eqB_len hlm]
    exact end1 rfl rfl (by kernel_rfl) .f ⟨rfl,rfl⟩
  repeat' (first|(with_reducible first|refine Wx.h ?_|refine Wb.h fun K hK=>?_|(refine hK _ ?_;clear hK K)|(refine wT ?_ ?_;· assumption)|(refine wF ?_ ?_;· assumption))|((with_reducible refine kQ ?_ ?_);kernel_rfl)|((with_reducible refine k1 ?_ ?_);rfl)|((with_reducible refine k0 ?_ ?_);rfl)|((with_reducible apply kB)<;>first|rfl|intro h)|((with_reducible refine kM ?_ ?_);rfl)|(with_reducible refine Wq.h ?_ ?_)<;>intro h<;>try (exfalso;omega)|(with_reducible refine Wu.h ?_ ?_)<;>intro h<;>try simp only [h]|((fail_if_success with_reducible refine Wz.h ?_);first|simp (disch:=omega) only [↓LD,LA,loadA_rf,seval,LSt]|((with_reducible refine And.intro ?_ ?_);omega)|simp only [D.int,D.bool]))
  refine HS.loopG [1,2,15,16,17] (fun i : Nat=>⟨frm 32 [(1,.f (fNn m)),(2,.fn g []),(15,.f (fNn l)),(16,D.int l.length),(17,D.int i)],[],[]⟩) (fun i=>i ≤ l.length ∧ l.take i = m.take i) (fun i=>l.length - i) 0 (by kernel_rfl) ⟨Nat.zero_le _,rfl⟩ ?_
  rintro i ⟨hi,ht⟩
  by_cases hil : i < l.length
  · repeat' (first|(with_reducible first|refine Wx.h ?_|refine Wb.h fun K hK=>?_|(refine hK _ ?_;clear hK K)|(refine wT ?_ ?_;· assumption)|(refine wF ?_ ?_;· assumption))|((with_reducible refine kQ ?_ ?_);kernel_rfl)|((with_reducible refine k1 ?_ ?_);rfl)|((with_reducible refine k0 ?_ ?_);rfl)|((with_reducible apply kB)<;>first|rfl|intro h)|((with_reducible refine kM ?_ ?_);rfl)|(with_reducible refine Wq.h ?_ ?_)<;>intro h<;>try (exfalso;omega)|(with_reducible refine Wu.h ?_ ?_)<;>intro h<;>try simp only [h]|((fail_if_success with_reducible refine Wz.h ?_);first|simp (disch:=omega) only [↓LD,LA,loadA_rf,seval,LSt,load_fNn,len_fNn,Nn.cs,-loadA_rf]|((with_reducible refine And.intro ?_ ?_);omega)|simp only [D.int,D.bool]))
    refine callW_pure (hf _ (gt_mem hil) _ (gt_mem (l:=m) (k:=i) (by omega))) rfl rfl rfl ?_
    by_cases e : gt l i = gt m i
    · rw [eqB_t e]
      repeat' (first|(with_reducible first|refine Wx.h ?_|refine Wb.h fun K hK=>?_|(refine hK _ ?_;clear hK K)|(refine wT ?_ ?_;· assumption)|(refine wF ?_ ?_;· assumption))|((with_reducible refine kQ ?_ ?_);kernel_rfl)|((with_reducible refine k1 ?_ ?_);rfl)|((with_reducible refine k0 ?_ ?_);rfl)|((with_reducible apply kB)<;>first|rfl|intro h)|((with_reducible refine kM ?_ ?_);rfl)|(with_reducible refine Wq.h ?_ ?_)<;>intro h<;>try (exfalso;omega)|(with_reducible refine Wu.h ?_ ?_)<;>intro h<;>try simp only [h]|((fail_if_success with_reducible refine Wz.h ?_);first|simp (disch:=omega) only [↓LD,LA,loadA_rf,seval,LSt]|((with_reducible refine And.intro ?_ ?_);omega)|simp only [D.int,D.bool]))
      exact Next.mk (i + 1) (by kernel_rfl) ⟨by omega,take_step hlm hil ht e⟩ (by omega)
    · rw [eqB_f e]
      repeat' (first|(with_reducible first|refine Wx.h ?_|refine Wb.h fun K hK=>?_|(refine hK _ ?_;clear hK K)|(refine wT ?_ ?_;· assumption)|(refine wF ?_ ?_;· assumption))|((with_reducible refine kQ ?_ ?_);kernel_rfl)|((with_reducible refine k1 ?_ ?_);rfl)|((with_reducible refine k0 ?_ ?_);rfl)|((with_reducible apply kB)<;>first|rfl|intro h)|((with_reducible refine kM ?_ ?_);rfl)|(with_reducible refine Wq.h ?_ ?_)<;>intro h<;>try (exfalso;omega)|(with_reducible refine Wu.h ?_ ?_)<;>intro h<;>try simp only [h]|((fail_if_success with_reducible refine Wz.h ?_);first|simp (disch:=omega) only [↓LD,LA,loadA_rf,seval,LSt]|((with_reducible refine And.intro ?_ ?_);omega)|simp only [D.int,D.bool]))
      rw [eqB_at e]
      exact end1 rfl rfl (by kernel_rfl) .f ⟨rfl,rfl⟩
  · repeat' (first|(with_reducible first|refine Wx.h ?_|refine Wb.h fun K hK=>?_|(refine hK _ ?_;clear hK K)|(refine wT ?_ ?_;· assumption)|(refine wF ?_ ?_;· assumption))|((with_reducible refine kQ ?_ ?_);kernel_rfl)|((with_reducible refine k1 ?_ ?_);rfl)|((with_reducible refine k0 ?_ ?_);rfl)|((with_reducible apply kB)<;>first|rfl|intro h)|((with_reducible refine kM ?_ ?_);rfl)|(with_reducible refine Wq.h ?_ ?_)<;>intro h<;>try (exfalso;omega)|(with_reducible refine Wu.h ?_ ?_)<;>intro h<;>try simp only [h]|((fail_if_success with_reducible refine Wz.h ?_);first|simp (disch:=omega) only [↓LD,LA,loadA_rf,seval,LSt]|((with_reducible refine And.intro ?_ ?_);omega)|simp only [D.int,D.bool]))
    rw [eqB_end hlm ht (by omega)]
    exact end1 rfl rfl (by kernel_rfl) .f ⟨rfl,rfl⟩
theorem c_sg_EqualFunc (l m : List Sg) (g : FuncId) (hl : l.length ≤ 1000000) (hm : m.length ≤ 1000000)
    (hf : ∀ x ∈ l,∀ y ∈ m,Con Tryz.prog g [.ag (x.cs.map .f),.ag (y.cs.map .f)] [] fun r H'=>r = D.bool (eqB x y) ∧ H' = []) :
    Con Tryz.prog 21 [.f (fSg l),.f (fSg m),.fn g []] [] fun r H'=>r = D.bool (eqB l m) ∧ H' = []:=by
  refine Con.walk good fn_sg_EqualFunc (by simp) ?_
  unfold s_sg_EqualFunc
  simp only [argsE]
  by_cases hlm : (l.length : Int) = m.length
  rotate_left
  · repeat' (first|(with_reducible first|refine Wx.h ?_|refine Wb.h fun K hK=>?_|(refine hK _ ?_;clear hK K)|(refine wT ?_ ?_;· assumption)|(refine wF ?_ ?_;· assumption))|((with_reducible refine kQ ?_ ?_);kernel_rfl)|((with_reducible refine k1 ?_ ?_);rfl)|((with_reducible refine k0 ?_ ?_);rfl)|((with_reducible apply kB)<;>first|rfl|intro h)|((with_reducible refine kM ?_ ?_);rfl)|(with_reducible refine Wq.h ?_ ?_)<;>intro h<;>try (exfalso;omega)|(with_reducible refine Wu.h ?_ ?_)<;>intro h<;>try simp only [h]|((fail_if_success with_reducible refine Wz.h ?_);first|simp (disch:=omega) only [↓LD,LA,loadA_rf,seval,LSt]|((with_reducible refine And.intro ?_ ?_);omega)|simp only [D.int,D.bool]))
    rw [eqB_len hlm]
    exact end1 rfl rfl (by kernel_rfl) .f ⟨rfl,rfl⟩
  repeat' (first|(with_reducible first|refine Wx.h ?_|refine Wb.h fun K hK=>?_|(refine hK _ ?_;clear hK K)|(refine wT ?_ ?_;· assumption)|(refine wF ?_ ?_;· assumption))|((with_reducible refine kQ ?_ ?_);kernel_rfl)|((with_reducible refine k1 ?_ ?_);rfl)|((with_reducible refine k0 ?_ ?_);rfl)|((with_reducible apply kB)<;>first|rfl|intro h)|((with_reducible refine kM ?_ ?_);rfl)|(with_reducible refine Wq.h ?_ ?_)<;>intro h<;>try (exfalso;omega)|(with_reducible refine Wu.h ?_ ?_)<;>intro h<;>try simp only [h]|((fail_if_success with_reducible refine Wz.h ?_);first|simp (disch:=omega) only [↓LD,LA,loadA_rf,seval,LSt]|((with_reducible refine And.intro ?_ ?_);omega)|simp only [D.int,D.bool]))
  refine HS.loopG [1,2,15,16,17] (fun i : Nat=>⟨frm 32 [(1,.f (fSg m)),(2,.fn g []),(15,.f (fSg l)),(16,D.int l.length),(17,D.int i)],[],[]⟩) (fun i=>i ≤ l.length ∧ l.take i = m.take i) (fun i=>l.length - i) 0 (by kernel_rfl) ⟨Nat.zero_le _,rfl⟩ ?_
  rintro i ⟨hi,ht⟩
  by_cases hil : i < l.length
  · repeat' (first|(with_reducible first|refine Wx.h ?_|refine Wb.h fun K hK=>?_|(refine hK _ ?_;clear hK K)|(refine wT ?_ ?_;· assumption)|(refine wF ?_ ?_;· assumption))|((with_reducible refine kQ ?_ ?_);kernel_rfl)|((with_reducible refine k1 ?_ ?_);rfl)|((with_reducible refine k0 ?_ ?_);rfl)|((with_reducible apply kB)<;>first|rfl|intro h)|((with_reducible refine kM ?_ ?_);rfl)|(with_reducible refine Wq.h ?_ ?_)<;>intro h<;>try (exfalso;omega)|(with_reducible refine Wu.h ?_ ?_)<;>intro h<;>try simp only [h]|((fail_if_success with_reducible refine Wz.h ?_);first|simp (disch:=omega) only [↓LD,LA,loadA_rf,seval,LSt,load_fSg,len_fSg,Sg.cs,-loadA_rf]|((with_reducible refine And.intro ?_ ?_);omega)|simp only [D.int,D.bool]))
    refine callW_pure (hf _ (gt_mem hil) _ (gt_mem (l:=m) (k:=i) (by omega))) rfl rfl rfl ?_
    by_cases e : gt l i = gt m i
    · rw [eqB_t e]
      repeat' (first|(with_reducible first|refine Wx.h ?_|refine Wb.h fun K hK=>?_|(refine hK _ ?_;clear hK K)|(refine wT ?_ ?_;· assumption)|(refine wF ?_ ?_;· assumption))|((with_reducible refine kQ ?_ ?_);kernel_rfl)|((with_reducible refine k1 ?_ ?_);rfl)|((with_reducible refine k0 ?_ ?_);rfl)|((with_reducible apply kB)<;>first|rfl|intro h)|((with_reducible refine kM ?_ ?_);rfl)|(with_reducible refine Wq.h ?_ ?_)<;>intro h<;>try (exfalso;omega)|(with_reducible refine Wu.h ?_ ?_)<;>intro h<;>try simp only [h]|((fail_if_success with_reducible refine Wz.h ?_);first|simp (disch:=omega) only [↓LD,LA,loadA_rf,seval,LSt]|((with_reducible refine And.intro ?_ ?_);omega)|simp only [D.int,D.bool]))
      exact Next.mk (i + 1) (by kernel_rfl) ⟨by omega,take_step hlm hil ht e⟩ (by omega)
    · rw [eqB_f e]
      repeat' (first|(with_reducible first|refine Wx.h ?_|refine Wb.h fun K hK=>?_|(refine hK _ ?_;clear hK K)|(refine wT ?_ ?_;· assumption)|(refine wF ?_ ?_;· assumption))|((with_reducible refine kQ ?_ ?_);kernel_rfl)|((with_reducible refine k1 ?_ ?_);rfl)|((with_reducible refine k0 ?_ ?_);rfl)|((with_reducible apply kB)<;>first|rfl|intro h)|((with_reducible refine kM ?_ ?_);rfl)|(with_reducible refine Wq.h ?_ ?_)<;>intro h<;>try (exfalso;omega)|(with_reducible refine Wu.h ?_ ?_)<;>intro h<;>try simp only [h]|((fail_if_success with_reducible refine Wz.h ?_);first|simp (disch:=omega) only [↓LD,LA,loadA_rf,seval,LSt]|((with_reducible refine And.intro ?_ ?_);omega)|simp only [D.int,D.bool]))
      rw [eqB_at e]
      exact end1 rfl rfl (by kernel_rfl) .f ⟨rfl,rfl⟩
  · repeat' (first|(with_reducible first|refine Wx.h ?_|refine Wb.h fun K hK=>?_|(refine hK _ ?_;clear hK K)|(refine wT ?_ ?_;· assumption)|(refine wF ?_ ?_;· assumption))|((with_reducible refine kQ ?_ ?_);kernel_rfl)|((with_reducible refine k1 ?_ ?_);rfl)|((with_reducible refine k0 ?_ ?_);rfl)|((with_reducible apply kB)<;>first|rfl|intro h)|((with_reducible refine kM ?_ ?_);rfl)|(with_reducible refine Wq.h ?_ ?_)<;>intro h<;>try (exfalso;omega)|(with_reducible refine Wu.h ?_ ?_)<;>intro h<;>try simp only [h]|((fail_if_success with_reducible refine Wz.h ?_);first|simp (disch:=omega) only [↓LD,LA,loadA_rf,seval,LSt]|((with_reducible refine And.intro ?_ ?_);omega)|simp only [D.int,D.bool]))
    rw [eqB_end hlm ht (by omega)]
    exact end1 rfl rfl (by kernel_rfl) .f ⟨rfl,rfl⟩
theorem eqS_bb {a b : Bs} : ((BB a).toList == (BB b).toList) = eqB a b:=by
  by_cases e : a = b
  · subst e;rw [eqB_t rfl];simp
  · rw [eqB_f e,beq_eq_false_iff_ne]
    intro h
    rw [ByteArray.toList_eq,ByteArray.toList_eq] at h
    exact e (by simpa [BB] using h)
theorem eqL_tm {x y : Tm} : eqL [1,0,2] [.f (.v (.string (BB x.name))),.f (.v (.int .i64 x.due)),.f (.v (.bool x.fired))] [.f (.v (.string (BB y.name))),.f (.v (.int .i64 y.due)),.f (.v (.bool y.fired))] = some (eqB x y):=by
  simp only [eqL,eqV,eqS_bb,if_true,Bool.and_true]
  obtain ⟨a1,a2,a3⟩:=x
  obtain ⟨b1,b2,b3⟩:=y
  congr 1
  by_cases e : (⟨a1,a2,a3⟩ : Tm) = ⟨b1,b2,b3⟩
  · rw [eqB_t e];cases e;simp [eqB_t]
  · rw [eqB_f e]
    by_cases e1 : a1 = b1
    · by_cases e2 : a2 = b2
      · have e3 : ¬ a3 = b3:=fun e3=>e (by rw [e1,e2,e3])
        simp [e3]
      · simp [e2]
    · simp [eqB_f e1]
theorem c_tm_Equal (l m : List Tm) (hl : l.length ≤ 1000000) (hm : m.length ≤ 1000000) : Con Tryz.prog 20 [.f (fTm l),.f (fTm m)] [] fun r H'=>r = D.bool (eqB l m) ∧ H' = []:=by
  refine Con.walk good fn_tm_Equal (by simp) ?_
  unfold s_tm_Equal
  simp only [argsE]
  by_cases hlm : (l.length : Int) = m.length
  rotate_left
  · repeat' (first|(with_reducible first|refine Wx.h ?_|refine Wb.h fun K hK=>?_|(refine hK _ ?_;clear hK K)|(refine wT ?_ ?_;· assumption)|(refine wF ?_ ?_;· assumption))|((with_reducible refine kQ ?_ ?_);kernel_rfl)|((with_reducible refine k1 ?_ ?_);rfl)|((with_reducible refine k0 ?_ ?_);rfl)|((with_reducible apply kB)<;>first|rfl|intro h)|((with_reducible refine kM ?_ ?_);rfl)|(with_reducible refine Wq.h ?_ ?_)<;>intro h<;>try (exfalso;omega)|(with_reducible refine Wu.h ?_ ?_)<;>intro h<;>try simp only [h]|((fail_if_success with_reducible refine Wz.h ?_);first|simp (disch:=omega) only [↓LD,LA,loadA_rf,seval,LSt]|((with_reducible refine And.intro ?_ ?_);omega)|simp only [D.int,D.bool]))
    rw [eqB_len hlm]
    exact end1 rfl rfl (by kernel_rfl) .f ⟨rfl,rfl⟩
  repeat' (first|(with_reducible first|refine Wx.h ?_|refine Wb.h fun K hK=>?_|(refine hK _ ?_;clear hK K)|(refine wT ?_ ?_;· assumption)|(refine wF ?_ ?_;· assumption))|((with_reducible refine kQ ?_ ?_);kernel_rfl)|((with_reducible refine k1 ?_ ?_);rfl)|((with_reducible refine k0 ?_ ?_);rfl)|((with_reducible apply kB)<;>first|rfl|intro h)|((with_reducible refine kM ?_ ?_);rfl)|(with_reducible refine Wq.h ?_ ?_)<;>intro h<;>try (exfalso;omega)|(with_reducible refine Wu.h ?_ ?_)<;>intro h<;>try simp only [h]|((fail_if_success with_reducible refine Wz.h ?_);first|simp (disch:=omega) only [↓LD,LA,loadA_rf,seval,LSt]|((with_reducible refine And.intro ?_ ?_);omega)|simp only [D.int,D.bool]))
  refine HS.loopG [0,1,12,13] (fun i : Nat=>⟨frm 26 [(0,.f (fTm l)),(1,.f (fTm m)),(12,D.int l.length),(13,D.int i)],[],[]⟩) (fun i=>i ≤ l.length ∧ l.take i = m.take i) (fun i=>l.length - i) 0 (by kernel_rfl) ⟨Nat.zero_le _,rfl⟩ ?_
  rintro i ⟨hi,ht⟩
  by_cases hil : i < l.length
  · by_cases e : gt l i = gt m i
    · have hb:=eqB_t e
      repeat' (first|(with_reducible first|refine Wx.h ?_|refine We.h fun K hK=>?_|refine Wd.h fun K M hK hM=>?_|(refine hK _ _ _ _ ?_;clear hK K;try clear hM M)|(refine hM ?_;clear hM M;try clear hK K)|refine Wb.h fun K hK=>?_|(refine hK _ ?_;clear hK K)|(refine wT ?_ ?_;· assumption)|(refine wF ?_ ?_;· assumption))|((with_reducible refine kQ ?_ ?_);kernel_rfl)|((with_reducible refine k1 ?_ ?_);rfl)|((with_reducible refine k0 ?_ ?_);rfl)|((with_reducible apply kB)<;>first|rfl|intro h)|((with_reducible refine kM ?_ ?_);rfl)|(with_reducible refine Wq.h ?_ ?_)<;>intro h<;>try (exfalso;omega)|(with_reducible refine Wu.h ?_ ?_)<;>intro h<;>try simp only [h]|((fail_if_success with_reducible refine Wz.h ?_);first|simp (disch:=omega) only [↓LD,LA,loadA_rf,seval,LSt,load_fTm,len_fTm,Tm.cs,eqL_tm,hb,Bool.not_true,-loadA_rf]|((with_reducible refine And.intro ?_ ?_);omega)|simp only [D.int,D.bool]))
      exact Next.mk (i + 1) (by kernel_rfl) ⟨by omega,take_step hlm hil ht e⟩ (by omega)
    · have hb:=eqB_f e
      repeat' (first|(with_reducible first|refine Wx.h ?_|refine We.h fun K hK=>?_|refine Wd.h fun K M hK hM=>?_|(refine hK _ _ _ _ ?_;clear hK K;try clear hM M)|(refine hM ?_;clear hM M;try clear hK K)|refine Wb.h fun K hK=>?_|(refine hK _ ?_;clear hK K)|(refine wT ?_ ?_;· assumption)|(refine wF ?_ ?_;· assumption))|((with_reducible refine kQ ?_ ?_);kernel_rfl)|((with_reducible refine k1 ?_ ?_);rfl)|((with_reducible refine k0 ?_ ?_);rfl)|((with_reducible apply kB)<;>first|rfl|intro h)|((with_reducible refine kM ?_ ?_);rfl)|(with_reducible refine Wq.h ?_ ?_)<;>intro h<;>try (exfalso;omega)|(with_reducible refine Wu.h ?_ ?_)<;>intro h<;>try simp only [h]|((fail_if_success with_reducible refine Wz.h ?_);first|simp (disch:=omega) only [↓LD,LA,loadA_rf,seval,LSt,load_fTm,len_fTm,Tm.cs,eqL_tm,hb,Bool.not_false,-loadA_rf]|((with_reducible refine And.intro ?_ ?_);omega)|simp only [D.int,D.bool]))
      rw [eqB_at e]
      exact end1 rfl rfl (by kernel_rfl) .f ⟨rfl,rfl⟩
  · repeat' (first|(with_reducible first|refine Wx.h ?_|refine Wb.h fun K hK=>?_|(refine hK _ ?_;clear hK K)|(refine wT ?_ ?_;· assumption)|(refine wF ?_ ?_;· assumption))|((with_reducible refine kQ ?_ ?_);kernel_rfl)|((with_reducible refine k1 ?_ ?_);rfl)|((with_reducible refine k0 ?_ ?_);rfl)|((with_reducible apply kB)<;>first|rfl|intro h)|((with_reducible refine kM ?_ ?_);rfl)|(with_reducible refine Wq.h ?_ ?_)<;>intro h<;>try (exfalso;omega)|(with_reducible refine Wu.h ?_ ?_)<;>intro h<;>try simp only [h]|((fail_if_success with_reducible refine Wz.h ?_);first|simp (disch:=omega) only [↓LD,LA,loadA_rf,seval,LSt]|((with_reducible refine And.intro ?_ ?_);omega)|simp only [D.int,D.bool]))
    rw [eqB_end hlm ht (by omega)]
    exact end1 rfl rfl (by kernel_rfl) .f ⟨rfl,rfl⟩
set_option maxHeartbeats 4000000
theorem c_int_Equal (l m : List Int) (hl : l.length ≤ 1000000) (hm : m.length ≤ 1000000) : Con Tryz.prog 71 [.f (fI l),.f (fI m)] [] fun r H'=>r = D.bool (eqB l m) ∧ H' = []:=by
  refine Con.walk good fn_int_Equal (by simp) ?_
  unfold s_int_Equal
  simp only [argsE]
  by_cases hlm : (l.length : Int) = m.length
  rotate_left
  · repeat' (first|(with_reducible first|refine Wx.h ?_|refine Wb.h fun K hK=>?_|(refine hK _ ?_;clear hK K)|(refine wT ?_ ?_;· assumption)|(refine wF ?_ ?_;· assumption))|((with_reducible refine kQ ?_ ?_);kernel_rfl)|((with_reducible refine k1 ?_ ?_);rfl)|((with_reducible refine k0 ?_ ?_);rfl)|((with_reducible apply kB)<;>first|rfl|intro h)|((with_reducible refine kM ?_ ?_);rfl)|(with_reducible refine Wq.h ?_ ?_)<;>intro h<;>try (exfalso;omega)|(with_reducible refine Wu.h ?_ ?_)<;>intro h<;>try simp only [h]|((fail_if_success with_reducible refine Wz.h ?_);first|simp (disch:=omega) only [↓LD,LA,loadA_rf,seval,LSt]|((with_reducible refine And.intro ?_ ?_);omega)|simp only [D.int,D.bool]))
    rw [eqB_len hlm]
    exact end1 rfl rfl (by kernel_rfl) .f ⟨rfl,rfl⟩
  repeat' (first|(with_reducible first|refine Wx.h ?_|refine Wb.h fun K hK=>?_|(refine hK _ ?_;clear hK K)|(refine wT ?_ ?_;· assumption)|(refine wF ?_ ?_;· assumption))|((with_reducible refine kQ ?_ ?_);kernel_rfl)|((with_reducible refine k1 ?_ ?_);rfl)|((with_reducible refine k0 ?_ ?_);rfl)|((with_reducible apply kB)<;>first|rfl|intro h)|((with_reducible refine kM ?_ ?_);rfl)|(with_reducible refine Wq.h ?_ ?_)<;>intro h<;>try (exfalso;omega)|(with_reducible refine Wu.h ?_ ?_)<;>intro h<;>try simp only [h]|((fail_if_success with_reducible refine Wz.h ?_);first|simp (disch:=omega) only [↓LD,LA,loadA_rf,seval,LSt]|((with_reducible refine And.intro ?_ ?_);omega)|simp only [D.int,D.bool]))
  refine HS.loopG [0,1,12,13] (fun i : Nat=>⟨frm 26 [(0,.f (fI l)),(1,.f (fI m)),(12,D.int l.length),(13,D.int i)],[],[]⟩) (fun i=>i ≤ l.length ∧ l.take i = m.take i) (fun i=>l.length - i) 0 (by kernel_rfl) ⟨Nat.zero_le _,rfl⟩ ?_
  rintro i ⟨hi,ht⟩
  by_cases hil : i < l.length
  · by_cases e : gt l i = gt m i
    · repeat' (first|(with_reducible first|refine Wx.h ?_|refine We.h fun K hK=>?_|refine Wd.h fun K M hK hM=>?_|(refine hK _ _ _ _ ?_;clear hK K;try clear hM M)|(refine hM ?_;clear hM M;try clear hK K)|refine Wb.h fun K hK=>?_|(refine hK _ ?_;clear hK K)|(refine wT ?_ ?_;· assumption)|(refine wF ?_ ?_;· assumption))|((with_reducible refine kQ ?_ ?_);kernel_rfl)|((with_reducible refine k1 ?_ ?_);rfl)|((with_reducible refine k0 ?_ ?_);rfl)|((with_reducible apply kB)<;>first|rfl|intro h)|((with_reducible refine kM ?_ ?_);rfl)|(with_reducible refine Wq.h ?_ ?_)<;>intro h<;>try (exfalso;omega)|(with_reducible refine Wu.h ?_ ?_)<;>intro h<;>try simp only [h]|((fail_if_success with_reducible refine Wz.h ?_);first|simp (disch:=omega) only [↓LD,LA,loadA_rf,seval,LSt]|((with_reducible refine And.intro ?_ ?_);omega)|simp only [D.int,D.bool]))
      exact Next.mk (i + 1) (by kernel_rfl) ⟨by omega,take_step hlm hil ht e⟩ (by omega)
    · repeat' (first|(with_reducible first|refine Wx.h ?_|refine We.h fun K hK=>?_|refine Wd.h fun K M hK hM=>?_|(refine hK _ _ _ _ ?_;clear hK K;try clear hM M)|(refine hM ?_;clear hM M;try clear hK K)|refine Wb.h fun K hK=>?_|(refine hK _ ?_;clear hK K)|(refine wT ?_ ?_;· assumption)|(refine wF ?_ ?_;· assumption))|((with_reducible refine kQ ?_ ?_);kernel_rfl)|((with_reducible refine k1 ?_ ?_);rfl)|((with_reducible refine k0 ?_ ?_);rfl)|((with_reducible apply kB)<;>first|rfl|intro h)|((with_reducible refine kM ?_ ?_);rfl)|(with_reducible refine Wq.h ?_ ?_)<;>intro h<;>try (exfalso;omega)|(with_reducible refine Wu.h ?_ ?_)<;>intro h<;>try simp only [h]|((fail_if_success with_reducible refine Wz.h ?_);first|simp (disch:=omega) only [↓LD,LA,loadA_rf,seval,LSt]|((with_reducible refine And.intro ?_ ?_);omega)|simp only [D.int,D.bool]))
      rw [eqB_at e]
      exact end1 rfl rfl (by kernel_rfl) .f ⟨rfl,rfl⟩
  · repeat' (first|(with_reducible first|refine Wx.h ?_|refine Wb.h fun K hK=>?_|(refine hK _ ?_;clear hK K)|(refine wT ?_ ?_;· assumption)|(refine wF ?_ ?_;· assumption))|((with_reducible refine kQ ?_ ?_);kernel_rfl)|((with_reducible refine k1 ?_ ?_);rfl)|((with_reducible refine k0 ?_ ?_);rfl)|((with_reducible apply kB)<;>first|rfl|intro h)|((with_reducible refine kM ?_ ?_);rfl)|(with_reducible refine Wq.h ?_ ?_)<;>intro h<;>try (exfalso;omega)|(with_reducible refine Wu.h ?_ ?_)<;>intro h<;>try simp only [h]|((fail_if_success with_reducible refine Wz.h ?_);first|simp (disch:=omega) only [↓LD,LA,loadA_rf,seval,LSt]|((with_reducible refine And.intro ?_ ?_);omega)|simp only [D.int,D.bool]))
    rw [eqB_end hlm ht (by omega)]
    exact end1 rfl rfl (by kernel_rfl) .f ⟨rfl,rfl⟩
theorem c_bytes_Equal (a b : Bs) (ha : a.length ≤ 1000000) (hb : b.length ≤ 1000000) : Con Tryz.prog 40 [.f (fY a),.f (fY b)] [] fun r H'=>r = D.bool (eqB a b) ∧ H' = []:=by
  refine Con.walk good fn_bytes_Equal (by simp) ?_
  unfold s_bytes_Equal
  simp only [argsE]
  by_cases e : a = b
  · rw [eqB_t e]
    repeat' (first|(with_reducible first|refine Wx.h ?_|refine Wb.h fun K hK=>?_|(refine hK _ ?_;clear hK K)|(refine wT ?_ ?_;· assumption)|(refine wF ?_ ?_;· assumption))|((with_reducible refine kQ ?_ ?_);kernel_rfl)|((with_reducible refine k1 ?_ ?_);rfl)|((with_reducible refine k0 ?_ ?_);rfl)|((with_reducible apply kB)<;>first|rfl|intro h)|((with_reducible refine kM ?_ ?_);rfl)|(with_reducible refine Wq.h ?_ ?_)<;>intro h<;>try (exfalso;omega)|(with_reducible refine Wu.h ?_ ?_)<;>intro h<;>try simp only [h]|((fail_if_success with_reducible refine Wz.h ?_);first|simp (disch:=omega) only [↓LD,LA,loadA_rf,seval,bytes_map,e]|((with_reducible refine And.intro ?_ ?_);omega)|simp only [D.int,D.bool]))
    exact end1 rfl rfl (by kernel_rfl) .f ⟨rfl,rfl⟩
  · rw [eqB_f e]
    repeat' (first|(with_reducible first|refine Wx.h ?_|refine Wb.h fun K hK=>?_|(refine hK _ ?_;clear hK K)|(refine wT ?_ ?_;· assumption)|(refine wF ?_ ?_;· assumption))|((with_reducible refine kQ ?_ ?_);kernel_rfl)|((with_reducible refine k1 ?_ ?_);rfl)|((with_reducible refine k0 ?_ ?_);rfl)|((with_reducible apply kB)<;>first|rfl|intro h)|((with_reducible refine kM ?_ ?_);rfl)|(with_reducible refine Wq.h ?_ ?_)<;>intro h<;>try (exfalso;omega)|(with_reducible refine Wu.h ?_ ?_)<;>intro h<;>try simp only [h]|((fail_if_success with_reducible refine Wz.h ?_);first|simp (disch:=omega) only [↓LD,LA,loadA_rf,seval,bytes_map,e]|((with_reducible refine And.intro ?_ ?_);omega)|simp only [D.int,D.bool]))
    · exact absurd (Eq.mp bb_inj h) e
    · exact end1 rfl rfl (by kernel_rfl) .f ⟨rfl,rfl⟩
instance {a b : Bs} {H : List Row} {K : D → List Row → Prop} [ha : Kn (a.length ≤ 1000000)] [hb : Kn (b.length ≤ 1000000)] : Wa (callW Tryz.prog (.fn 40 []) [.f (fY a),.f (fY b)] H K) (K (.f (.v (.bool (eqB a b)))) H):=⟨fun h=>callW_pure (c_bytes_Equal a b ha.h hb.h) rfl rfl rfl h⟩
theorem c_sameNode (x y : Nn) (hx : x.data.length ≤ 1000000) (hy : y.data.length ≤ 1000000) : Con Tryz.prog 19 [.ag (x.cs.map .f),.ag (y.cs.map .f)] [] fun r H'=>r = D.bool (eqB x y) ∧ H' = []:=by
  obtain ⟨a1,a2,a3,a4⟩:=x
  obtain ⟨b1,b2,b3,b4⟩:=y
  dsimp only at hx hy
  haveI : Kn (a4.length ≤ 1000000):=⟨hx⟩
  haveI : Kn (b4.length ≤ 1000000):=⟨hy⟩
  refine Con.walk good fn_st_sameNode (by simp) ?_
  unfold s_st_sameNode
  simp only [argsE]
  by_cases e4 : a4 = b4
  · have hb:=eqB_t e4
    repeat' (first|(with_reducible first|refine Wx.h ?_|refine Wb.h fun K hK=>?_|(refine hK _ ?_;clear hK K)|(refine wT ?_ ?_;· assumption)|(refine wF ?_ ?_;· assumption))|((with_reducible refine kQ ?_ ?_);kernel_rfl)|((with_reducible refine k1 ?_ ?_);rfl)|((with_reducible refine k0 ?_ ?_);rfl)|((with_reducible apply kB)<;>first|rfl|intro h)|((with_reducible refine kM ?_ ?_);rfl)|(with_reducible refine Wq.h ?_ ?_)<;>intro h<;>try (exfalso;omega)|(with_reducible refine Wu.h ?_ ?_)<;>intro h<;>try simp only [h]|((fail_if_success with_reducible refine Wz.h ?_);first|simp (disch:=omega) only [↓LD,LA,loadA_rf,seval,Nn.cs,hb]|((with_reducible refine And.intro ?_ ?_);omega)|simp only [D.int,D.bool]))
    · rw [eqB_t (by subst_vars;rfl)];exact end1 rfl rfl (by kernel_rfl) .f ⟨rfl,rfl⟩
    all_goals
      rw [eqB_f (by intro e;cases e;contradiction)];exact end1 rfl rfl (by kernel_rfl) .f ⟨rfl,rfl⟩
  · have hb:=eqB_f e4
    repeat' (first|(with_reducible first|refine Wx.h ?_|refine Wb.h fun K hK=>?_|(refine hK _ ?_;clear hK K)|(refine wT ?_ ?_;· assumption)|(refine wF ?_ ?_;· assumption))|((with_reducible refine kQ ?_ ?_);kernel_rfl)|((with_reducible refine k1 ?_ ?_);rfl)|((with_reducible refine k0 ?_ ?_);rfl)|((with_reducible apply kB)<;>first|rfl|intro h)|((with_reducible refine kM ?_ ?_);rfl)|(with_reducible refine Wq.h ?_ ?_)<;>intro h<;>try (exfalso;omega)|(with_reducible refine Wu.h ?_ ?_)<;>intro h<;>try simp only [h]|((fail_if_success with_reducible refine Wz.h ?_);first|simp (disch:=omega) only [↓LD,LA,loadA_rf,seval,Nn.cs,hb]|((with_reducible refine And.intro ?_ ?_);omega)|simp only [D.int,D.bool]))
    all_goals rw [eqB_f (fun e=>e4 (by cases e;rfl))];exact end1 rfl rfl (by kernel_rfl) .f ⟨rfl,rfl⟩
theorem c_sameSignal (x y : Sg) (hx : x.data.length ≤ 1000000) (hy : y.data.length ≤ 1000000) : Con Tryz.prog 22 [.ag (x.cs.map .f),.ag (y.cs.map .f)] [] fun r H'=>r = D.bool (eqB x y) ∧ H' = []:=by
  obtain ⟨a1,a2,a4⟩:=x
  obtain ⟨b1,b2,b4⟩:=y
  dsimp only at hx hy
  haveI : Kn (a4.length ≤ 1000000):=⟨hx⟩
  haveI : Kn (b4.length ≤ 1000000):=⟨hy⟩
  refine Con.walk good fn_st_sameSignal (by simp) ?_
  unfold s_st_sameSignal
  simp only [argsE]
  by_cases e4 : a4 = b4
  · have hb:=eqB_t e4
    repeat' (first|(with_reducible first|refine Wx.h ?_|refine Wb.h fun K hK=>?_|(refine hK _ ?_;clear hK K)|(refine wT ?_ ?_;· assumption)|(refine wF ?_ ?_;· assumption))|((with_reducible refine kQ ?_ ?_);kernel_rfl)|((with_reducible refine k1 ?_ ?_);rfl)|((with_reducible refine k0 ?_ ?_);rfl)|((with_reducible apply kB)<;>first|rfl|intro h)|((with_reducible refine kM ?_ ?_);rfl)|(with_reducible refine Wq.h ?_ ?_)<;>intro h<;>try (exfalso;omega)|(with_reducible refine Wu.h ?_ ?_)<;>intro h<;>try simp only [h]|((fail_if_success with_reducible refine Wz.h ?_);first|simp (disch:=omega) only [↓LD,LA,loadA_rf,seval,Sg.cs,hb]|((with_reducible refine And.intro ?_ ?_);omega)|simp only [D.int,D.bool]))
    · rw [eqB_t (by subst_vars;rfl)];exact end1 rfl rfl (by kernel_rfl) .f ⟨rfl,rfl⟩
    all_goals
      rw [eqB_f (by intro e;cases e;contradiction)];exact end1 rfl rfl (by kernel_rfl) .f ⟨rfl,rfl⟩
  · have hb:=eqB_f e4
    repeat' (first|(with_reducible first|refine Wx.h ?_|refine Wb.h fun K hK=>?_|(refine hK _ ?_;clear hK K)|(refine wT ?_ ?_;· assumption)|(refine wF ?_ ?_;· assumption))|((with_reducible refine kQ ?_ ?_);kernel_rfl)|((with_reducible refine k1 ?_ ?_);rfl)|((with_reducible refine k0 ?_ ?_);rfl)|((with_reducible apply kB)<;>first|rfl|intro h)|((with_reducible refine kM ?_ ?_);rfl)|(with_reducible refine Wq.h ?_ ?_)<;>intro h<;>try (exfalso;omega)|(with_reducible refine Wu.h ?_ ?_)<;>intro h<;>try simp only [h]|((fail_if_success with_reducible refine Wz.h ?_);first|simp (disch:=omega) only [↓LD,LA,loadA_rf,seval,Sg.cs,hb]|((with_reducible refine And.intro ?_ ?_);omega)|simp only [D.int,D.bool]))
    all_goals rw [eqB_f (fun e=>e4 (by cases e;rfl))];exact end1 rfl rfl (by kernel_rfl) .f ⟨rfl,rfl⟩
theorem load_fGd {H : List Row} {g : List Nd} {k : Nat} (hk : k < g.length) : loadA H 3 (.rf ((g.flatMap Nd.cs).drop (k * 3))) = some (.ag ((Nd.cs (gt g k)).map .f)):=flat_loadA Nd.cs_len hk
theorem len_fGd {g : List Nd} : (g.flatMap Nd.cs).length = g.length * 3:=flat_len' Nd.cs_len g
instance {a b : List Int} {H : List Row} {K : D → List Row → Prop} [ha : Kn (a.length ≤ 1000000)] [hb : Kn (b.length ≤ 1000000)] : Wa (callW Tryz.prog (.fn 71 []) [.f (fI a),.f (fI b)] H K) (K (.f (.v (.bool (eqB a b)))) H):=⟨fun h=>callW_pure (c_int_Equal a b ha.h hb.h) rfl rfl rfl h⟩
theorem c_sameDef (x y : Nd) (hx : x.ns.length ≤ 1000000) (hy : y.ns.length ≤ 1000000) : Con Tryz.prog 39 [.ag (x.cs.map .f),.ag (y.cs.map .f)] [] fun r H'=>r = D.bool (eqB x y) ∧ H' = []:=by
  obtain ⟨a1,a2,a3⟩:=x
  obtain ⟨b1,b2,b3⟩:=y
  dsimp only at hx hy
  haveI : Kn (a1.length ≤ 1000000):=⟨hx⟩
  haveI : Kn (b1.length ≤ 1000000):=⟨hy⟩
  refine Con.walk good fn_ev_sameDef (by simp) ?_
  unfold s_ev_sameDef
  simp only [argsE]
  by_cases e4 : a1 = b1
  · have hb:=eqB_t e4
    repeat' (first|(with_reducible first|refine Wx.h ?_|refine Wb.h fun K hK=>?_|(refine hK _ ?_;clear hK K)|(refine wT ?_ ?_;· assumption)|(refine wF ?_ ?_;· assumption))|((with_reducible refine kQ ?_ ?_);kernel_rfl)|((with_reducible refine k1 ?_ ?_);rfl)|((with_reducible refine k0 ?_ ?_);rfl)|((with_reducible apply kB)<;>first|rfl|intro h)|((with_reducible refine kM ?_ ?_);rfl)|(with_reducible refine Wq.h ?_ ?_)<;>intro h<;>try (exfalso;omega)|(with_reducible refine Wu.h ?_ ?_)<;>intro h<;>try simp only [h]|((fail_if_success with_reducible refine Wz.h ?_);first|simp (disch:=omega) only [↓LD,LA,loadA_rf,seval,Nd.cs,hb]|((with_reducible refine And.intro ?_ ?_);omega)|simp only [D.int,D.bool]))
    · rw [eqB_t (by subst_vars;rfl)];exact end1 rfl rfl (by kernel_rfl) .f ⟨rfl,rfl⟩
    all_goals
      rw [eqB_f (by intro e;cases e;contradiction)];exact end1 rfl rfl (by kernel_rfl) .f ⟨rfl,rfl⟩
  · have hb:=eqB_f e4
    repeat' (first|(with_reducible first|refine Wx.h ?_|refine Wb.h fun K hK=>?_|(refine hK _ ?_;clear hK K)|(refine wT ?_ ?_;· assumption)|(refine wF ?_ ?_;· assumption))|((with_reducible refine kQ ?_ ?_);kernel_rfl)|((with_reducible refine k1 ?_ ?_);rfl)|((with_reducible refine k0 ?_ ?_);rfl)|((with_reducible apply kB)<;>first|rfl|intro h)|((with_reducible refine kM ?_ ?_);rfl)|(with_reducible refine Wq.h ?_ ?_)<;>intro h<;>try (exfalso;omega)|(with_reducible refine Wu.h ?_ ?_)<;>intro h<;>try simp only [h]|((fail_if_success with_reducible refine Wz.h ?_);first|simp (disch:=omega) only [↓LD,LA,loadA_rf,seval,Nd.cs,hb]|((with_reducible refine And.intro ?_ ?_);omega)|simp only [D.int,D.bool]))
    all_goals rw [eqB_f (fun e=>e4 (by cases e;rfl))];exact end1 rfl rfl (by kernel_rfl) .f ⟨rfl,rfl⟩
set_option maxHeartbeats 4000000
theorem eqB_self {α : Type} {a : α} : eqB a a = true:=eqB_t rfl
theorem eqB_true {α : Type} {a b : α} (h : eqB a b = true) : a = b:=by simpa [eqB] using h
theorem c_df_EqualFunc (l m : List Nd) (g : FuncId) (hl : l.length ≤ 1000000) (hm : m.length ≤ 1000000)
    (hf : ∀ x ∈ l,∀ y ∈ m,Con Tryz.prog g [.ag (x.cs.map .f),.ag (y.cs.map .f)] [] fun r H'=>r = D.bool (eqB x y) ∧ H' = []) :
    Con Tryz.prog 38 [.f (fG l),.f (fG m),.fn g []] [] fun r H'=>r = D.bool (eqB l m) ∧ H' = []:=by
  refine Con.walk good fn_df_EqualFunc (by simp) ?_
  unfold s_df_EqualFunc
  simp only [argsE]
  by_cases hlm : (l.length : Int) = m.length
  rotate_left
  · repeat' (first|(with_reducible first|refine Wx.h ?_|refine Wb.h fun K hK=>?_|(refine hK _ ?_;clear hK K)|(refine wT ?_ ?_;· assumption)|(refine wF ?_ ?_;· assumption))|((with_reducible refine kQ ?_ ?_);kernel_rfl)|((with_reducible refine k1 ?_ ?_);rfl)|((with_reducible refine k0 ?_ ?_);rfl)|((with_reducible apply kB)<;>first|rfl|intro h)|((with_reducible refine kM ?_ ?_);rfl)|(with_reducible refine Wq.h ?_ ?_)<;>intro h<;>try (exfalso;omega)|(with_reducible refine Wu.h ?_ ?_)<;>intro h<;>try simp only [h]|((fail_if_success with_reducible refine Wz.h ?_);first|simp (disch:=omega) only [↓LD,LA,loadA_rf,seval,LSt]|((with_reducible refine And.intro ?_ ?_);omega)|simp only [D.int,D.bool]))
    rw [eqB_len hlm]
    exact end1 rfl rfl (by kernel_rfl) .f ⟨rfl,rfl⟩
  repeat' (first|(with_reducible first|refine Wx.h ?_|refine Wb.h fun K hK=>?_|(refine hK _ ?_;clear hK K)|(refine wT ?_ ?_;· assumption)|(refine wF ?_ ?_;· assumption))|((with_reducible refine kQ ?_ ?_);kernel_rfl)|((with_reducible refine k1 ?_ ?_);rfl)|((with_reducible refine k0 ?_ ?_);rfl)|((with_reducible apply kB)<;>first|rfl|intro h)|((with_reducible refine kM ?_ ?_);rfl)|(with_reducible refine Wq.h ?_ ?_)<;>intro h<;>try (exfalso;omega)|(with_reducible refine Wu.h ?_ ?_)<;>intro h<;>try simp only [h]|((fail_if_success with_reducible refine Wz.h ?_);first|simp (disch:=omega) only [↓LD,LA,loadA_rf,seval,LSt]|((with_reducible refine And.intro ?_ ?_);omega)|simp only [D.int,D.bool]))
  refine HS.loopG [1,2,15,16,17] (fun i : Nat=>⟨frm 32 [(1,.f (fG m)),(2,.fn g []),(15,.f (fG l)),(16,D.int l.length),(17,D.int i)],[],[]⟩) (fun i=>i ≤ l.length ∧ l.take i = m.take i) (fun i=>l.length - i) 0 (by kernel_rfl) ⟨Nat.zero_le _,rfl⟩ ?_
  rintro i ⟨hi,ht⟩
  by_cases hil : i < l.length
  · repeat' (first|(with_reducible first|refine Wx.h ?_|refine Wb.h fun K hK=>?_|(refine hK _ ?_;clear hK K)|(refine wT ?_ ?_;· assumption)|(refine wF ?_ ?_;· assumption))|((with_reducible refine kQ ?_ ?_);kernel_rfl)|((with_reducible refine k1 ?_ ?_);rfl)|((with_reducible refine k0 ?_ ?_);rfl)|((with_reducible apply kB)<;>first|rfl|intro h)|((with_reducible refine kM ?_ ?_);rfl)|(with_reducible refine Wq.h ?_ ?_)<;>intro h<;>try (exfalso;omega)|(with_reducible refine Wu.h ?_ ?_)<;>intro h<;>try simp only [h]|((fail_if_success with_reducible refine Wz.h ?_);first|simp (disch:=omega) only [↓LD,LA,loadA_rf,seval,LSt,load_fGd,len_fGd,Nd.cs,-loadA_rf]|((with_reducible refine And.intro ?_ ?_);omega)|simp only [D.int,D.bool]))
    refine callW_pure (hf _ (gt_mem hil) _ (gt_mem (l:=m) (k:=i) (by omega))) rfl rfl rfl ?_
    by_cases e : gt l i = gt m i
    · rw [eqB_t e]
      repeat' (first|(with_reducible first|refine Wx.h ?_|refine Wb.h fun K hK=>?_|(refine hK _ ?_;clear hK K)|(refine wT ?_ ?_;· assumption)|(refine wF ?_ ?_;· assumption))|((with_reducible refine kQ ?_ ?_);kernel_rfl)|((with_reducible refine k1 ?_ ?_);rfl)|((with_reducible refine k0 ?_ ?_);rfl)|((with_reducible apply kB)<;>first|rfl|intro h)|((with_reducible refine kM ?_ ?_);rfl)|(with_reducible refine Wq.h ?_ ?_)<;>intro h<;>try (exfalso;omega)|(with_reducible refine Wu.h ?_ ?_)<;>intro h<;>try simp only [h]|((fail_if_success with_reducible refine Wz.h ?_);first|simp (disch:=omega) only [↓LD,LA,loadA_rf,seval,LSt]|((with_reducible refine And.intro ?_ ?_);omega)|simp only [D.int,D.bool]))
      exact Next.mk (i + 1) (by kernel_rfl) ⟨by omega,take_step hlm hil ht e⟩ (by omega)
    · rw [eqB_f e]
      repeat' (first|(with_reducible first|refine Wx.h ?_|refine Wb.h fun K hK=>?_|(refine hK _ ?_;clear hK K)|(refine wT ?_ ?_;· assumption)|(refine wF ?_ ?_;· assumption))|((with_reducible refine kQ ?_ ?_);kernel_rfl)|((with_reducible refine k1 ?_ ?_);rfl)|((with_reducible refine k0 ?_ ?_);rfl)|((with_reducible apply kB)<;>first|rfl|intro h)|((with_reducible refine kM ?_ ?_);rfl)|(with_reducible refine Wq.h ?_ ?_)<;>intro h<;>try (exfalso;omega)|(with_reducible refine Wu.h ?_ ?_)<;>intro h<;>try simp only [h]|((fail_if_success with_reducible refine Wz.h ?_);first|simp (disch:=omega) only [↓LD,LA,loadA_rf,seval,LSt]|((with_reducible refine And.intro ?_ ?_);omega)|simp only [D.int,D.bool]))
      rw [eqB_at e]
      exact end1 rfl rfl (by kernel_rfl) .f ⟨rfl,rfl⟩
  · repeat' (first|(with_reducible first|refine Wx.h ?_|refine Wb.h fun K hK=>?_|(refine hK _ ?_;clear hK K)|(refine wT ?_ ?_;· assumption)|(refine wF ?_ ?_;· assumption))|((with_reducible refine kQ ?_ ?_);kernel_rfl)|((with_reducible refine k1 ?_ ?_);rfl)|((with_reducible refine k0 ?_ ?_);rfl)|((with_reducible apply kB)<;>first|rfl|intro h)|((with_reducible refine kM ?_ ?_);rfl)|(with_reducible refine Wq.h ?_ ?_)<;>intro h<;>try (exfalso;omega)|(with_reducible refine Wu.h ?_ ?_)<;>intro h<;>try simp only [h]|((fail_if_success with_reducible refine Wz.h ?_);first|simp (disch:=omega) only [↓LD,LA,loadA_rf,seval,LSt]|((with_reducible refine And.intro ?_ ?_);omega)|simp only [D.int,D.bool]))
    rw [eqB_end hlm ht (by omega)]
    exact end1 rfl rfl (by kernel_rfl) .f ⟨rfl,rfl⟩
theorem c_by_EqualN : Con Tryz.prog 37 [.f (.v (.slice none 0 0)),.f (.v (.slice none 0 0))] [] fun r H'=>r = D.bool true ∧ H' = []:=by
  refine Con.walk good fn_by_Equal (by simp) ?_
  unfold s_by_Equal
  simp only [argsE]
  repeat' (first|(with_reducible first|refine Wx.h ?_|refine Wb.h fun K hK=>?_|(refine hK _ ?_;clear hK K)|(refine wT ?_ ?_;· assumption)|(refine wF ?_ ?_;· assumption))|((with_reducible refine kQ ?_ ?_);kernel_rfl)|((with_reducible refine k1 ?_ ?_);rfl)|((with_reducible refine k0 ?_ ?_);rfl)|((with_reducible apply kB)<;>first|rfl|intro h)|((with_reducible refine kM ?_ ?_);rfl)|(with_reducible refine Wq.h ?_ ?_)<;>intro h<;>try (exfalso;omega)|(with_reducible refine Wu.h ?_ ?_)<;>intro h<;>try simp only [h]|((fail_if_success with_reducible refine Wz.h ?_);first|simp (disch:=omega) only [↓LD,LA,loadA_rf,seval]|((with_reducible refine And.intro ?_ ?_);omega)|simp only [D.int,D.bool]))
  refine HS.loopG [12,13] (fun i : Nat=>⟨frm 26 [(12,D.int 0),(13,D.int 0)],[],[]⟩) (fun i=>True) (fun i=>0) 0 (by kernel_rfl) trivial ?_
  rintro i -
  repeat' (first|(with_reducible first|refine Wx.h ?_|refine Wb.h fun K hK=>?_|(refine hK _ ?_;clear hK K)|(refine wT ?_ ?_;· assumption)|(refine wF ?_ ?_;· assumption))|((with_reducible refine kQ ?_ ?_);kernel_rfl)|((with_reducible refine k1 ?_ ?_);rfl)|((with_reducible refine k0 ?_ ?_);rfl)|((with_reducible apply kB)<;>first|rfl|intro h)|((with_reducible refine kM ?_ ?_);rfl)|(with_reducible refine Wq.h ?_ ?_)<;>intro h<;>try (exfalso;omega)|(with_reducible refine Wu.h ?_ ?_)<;>intro h<;>try simp only [h]|((fail_if_success with_reducible refine Wz.h ?_);first|simp (disch:=omega) only [↓LD,LA,loadA_rf,seval]|((with_reducible refine And.intro ?_ ?_);omega)|simp only [D.int,D.bool]))
  exact end1 rfl rfl (by kernel_rfl) .f ⟨rfl,rfl⟩
def DfFit (l : List Nd) : Prop:=l.length ≤ 1000000 ∧ ∀ x ∈ l,x.ns.length ≤ 1000000
def NnFit (l : List Nn) : Prop:=l.length ≤ 1000000 ∧ ∀ x ∈ l,x.data.length ≤ 1000000
def SgFit (l : List Sg) : Prop:=l.length ≤ 1000000 ∧ ∀ x ∈ l,x.data.length ≤ 1000000
instance {H : List Row} {K : D → List Row → Prop} : Wa (callW Tryz.prog (.fn 37 []) [.f (.v (.slice none 0 0)),.f (.v (.slice none 0 0))] H K) (K (.f (.v (.bool true))) H):=⟨fun h=>callW_pure c_by_EqualN rfl rfl rfl h⟩
instance {a b : List Tm} {H : List Row} {K : D → List Row → Prop} [ha : Kn (a.length ≤ 1000000)] [hb : Kn (b.length ≤ 1000000)] : Wa (callW Tryz.prog (.fn 20 []) [.f (fTm a),.f (fTm b)] H K) (K (.f (.v (.bool (eqB a b)))) H):=⟨fun h=>callW_pure (c_tm_Equal a b ha.h hb.h) rfl rfl rfl h⟩
instance {a b : List Nd} {H : List Row} {K : D → List Row → Prop} [ha : Kn (DfFit a)] [hb : Kn (DfFit b)] : Wa (callW Tryz.prog (.fn 38 []) [.f (fG a),.f (fG b),.fn 39 []] H K) (K (.f (.v (.bool (eqB a b)))) H):=⟨fun h=>callW_pure (c_df_EqualFunc a b _ ha.h.1 hb.h.1 fun x hx y hy=>c_sameDef x y (ha.h.2 x hx) (hb.h.2 y hy)) rfl rfl rfl h⟩
instance {a b : List Nn} {H : List Row} {K : D → List Row → Prop} [ha : Kn (NnFit a)] [hb : Kn (NnFit b)] : Wa (callW Tryz.prog (.fn 18 []) [.f (fNn a),.f (fNn b),.fn 19 []] H K) (K (.f (.v (.bool (eqB a b)))) H):=⟨fun h=>callW_pure (c_nd_EqualFunc a b _ ha.h.1 hb.h.1 fun x hx y hy=>c_sameNode x y (ha.h.2 x hx) (hb.h.2 y hy)) rfl rfl rfl h⟩
instance {a b : List Sg} {H : List Row} {K : D → List Row → Prop} [ha : Kn (SgFit a)] [hb : Kn (SgFit b)] : Wa (callW Tryz.prog (.fn 21 []) [.f (fSg a),.f (fSg b),.fn 22 []] H K) (K (.f (.v (.bool (eqB a b)))) H):=⟨fun h=>callW_pure (c_sg_EqualFunc a b _ ha.h.1 hb.h.1 fun x hx y hy=>c_sameSignal x y (ha.h.2 x hx) (hb.h.2 y hy)) rfl rfl rfl h⟩
abbrev evO (a : List Nd) : D:=.ag [.f (.v (.int .i64 0)),.f (.v (.int .i64 0)),.f (.v (.int .i64 0)),.f (.v (.int .i64 0)),.f (.v (.int .i64 0)),.f (.v (.int .i64 0)),.f (.v (.string ⟨#[]⟩)),.f (.v (.slice none 0 0)),.f (fG a)]
theorem c_ev_SameD (a b : List Nd) (ha : DfFit a) (hb : DfFit b) : Con Tryz.prog 17 [evO a,evO b] [] fun r H'=>r = D.bool (eqB a b) ∧ H' = []:=by
  haveI : Kn (DfFit a):=⟨ha⟩
  haveI : Kn (DfFit b):=⟨hb⟩
  refine Con.walk good fn_ev_Same (by simp) ?_
  unfold s_ev_Same
  simp only [argsE]
  repeat' (first|(with_reducible first|refine Wx.h ?_|refine Wb.h fun K hK=>?_|(refine hK _ ?_;clear hK K)|(refine wT ?_ ?_;· assumption)|(refine wF ?_ ?_;· assumption))|((with_reducible refine kQ ?_ ?_);kernel_rfl)|((with_reducible refine k1 ?_ ?_);rfl)|((with_reducible refine k0 ?_ ?_);rfl)|((with_reducible apply kB)<;>first|rfl|intro h)|((with_reducible refine kM ?_ ?_);rfl)|(with_reducible refine Wq.h ?_ ?_)<;>intro h<;>try (exfalso;omega)|(with_reducible refine Wu.h ?_ ?_)<;>intro h<;>try simp only [h]|((fail_if_success with_reducible refine Wz.h ?_);first|simp (disch:=omega) only [↓LD,LA,loadA_rf,seval]|((with_reducible refine And.intro ?_ ?_);omega)|simp only [D.int,D.bool]))
  exact end1 rfl rfl (by kernel_rfl) .f ⟨rfl,rfl⟩
instance {a b : List Nd} {H : List Row} {K : D → List Row → Prop} [ha : Kn (DfFit a)] [hb : Kn (DfFit b)] : Wa (callW Tryz.prog (.fn 17 []) [evO a,evO b] H K) (K (.f (.v (.bool (eqB a b)))) H):=⟨fun h=>callW_pure (c_ev_SameD a b ha.h hb.h) rfl rfl rfl h⟩
set_option maxRecDepth 100000 in
theorem c_st_Same (s t : S12) (hs : FitS s) (ht : FitS t) : Con Tryz.prog 9 [stD s,stD t] [] fun r H'=>r = D.bool (eqB s t) ∧ H' = []:=by
  haveI : Kn (DfFit s.defs):=⟨hs.defs.2,fun x hx=>by have:=hs.defs.1 x hx;omega⟩
  haveI : Kn (DfFit t.defs):=⟨ht.defs.2,fun x hx=>by have:=ht.defs.1 x hx;omega⟩
  haveI : Kn (NnFit s.nodes):=⟨hs.nodes,hs.ndata⟩
  haveI : Kn (NnFit t.nodes):=⟨ht.nodes,ht.ndata⟩
  haveI : Kn (SgFit s.sgs):=⟨hs.sgs,hs.sdata⟩
  haveI : Kn (SgFit t.sgs):=⟨ht.sgs,ht.sdata⟩
  haveI : Kn (s.tms.length ≤ 1000000):=⟨hs.tms⟩
  haveI : Kn (t.tms.length ≤ 1000000):=⟨ht.tms⟩
  clear hs ht
  obtain ⟨a1,a2,a3,a4,a5,a6,a7,a8,a9⟩:=s
  obtain ⟨b1,b2,b3,b4,b5,b6,b7,b8,b9⟩:=t
  refine Con.walk good fn_st_Same (by simp) ?_
  unfold s_st_Same
  simp only [argsE,stD]
  repeat' (first|(with_reducible first|refine Wx.h ?_|refine Wb.h fun K hK=>?_|(refine hK _ ?_;clear hK K)|(refine wT ?_ ?_;· assumption)|(refine wF ?_ ?_;· assumption))|((with_reducible refine kQ ?_ ?_);kernel_rfl)|((with_reducible refine k1 ?_ ?_);rfl)|((with_reducible refine k0 ?_ ?_);rfl)|((with_reducible apply kB)<;>first|rfl|intro h)|((with_reducible refine kM ?_ ?_);rfl)|(with_reducible refine Wq.h ?_ ?_)<;>intro h<;>try (exfalso;omega)|(with_reducible refine Wu.h ?_ ?_)<;>intro h<;>try simp only [h]|((fail_if_success with_reducible refine Wz.h ?_);first|simp (disch:=omega) only [↓LD,LA,loadA_rf,seval]|((with_reducible refine And.intro ?_ ?_);omega)|simp only [D.int,D.bool]))
  · rename_i q1 q2 q3 q4 q5 q6 q7
    have he : eqB (⟨a1,a2,a3,a4,a5,a6,a7,a8,a9⟩ : S12) ⟨b1,b2,b3,b4,b5,b6,b7,b8,b9⟩ = eqB a9 b9:=by
      rw [q1,q2,q3,q4,eq_of_beq q5,eqB_true q6,eqB_true q7,eqB_true h]
      by_cases e9 : a9 = b9
      · rw [e9,eqB_self,eqB_self]
      · rw [eqB_f e9,eqB_f (fun e=>e9 (S12.mk.inj e).2.2.2.2.2.2.2.2)]
    rw [he]
    exact end1 rfl rfl (by kernel_rfl) .f ⟨rfl,rfl⟩
  all_goals
    rw [eqB_f (by intro e;cases e;first|contradiction|(rw [eqB_self] at h;cases h)|(rw [beq_self_eq_true] at h;cases h))]
    exact end1 rfl rfl (by kernel_rfl) .f ⟨rfl,rfl⟩
set_option maxHeartbeats 4000000
set_option maxRecDepth 100000 in
theorem c_st_Fold (l : List Ev) (hl : l.length ≤ 1000000) (hf : ∀ e ∈ l,FitV e) : Con Tryz.prog 11 [.f (fEv l)] [] fun r H'=>r = .tp [stD (foldR s0 l).2,D.int (foldR s0 l).1] ∧ H' = []:=by
  refine Con.walk good fn_st_Fold (by simp) ?_
  unfold s_st_Fold
  simp only [argsE]
  repeat' (first|(with_reducible first|refine Wx.h ?_|refine Wb.h fun K hK=>?_|(refine hK _ ?_;clear hK K)|(refine wT ?_ ?_;· assumption)|(refine wF ?_ ?_;· assumption))|((with_reducible refine kQ ?_ ?_);kernel_rfl)|((with_reducible refine k1 ?_ ?_);rfl)|((with_reducible refine k0 ?_ ?_);rfl)|((with_reducible apply kB)<;>first|rfl|intro h)|((with_reducible refine kM ?_ ?_);rfl)|(with_reducible refine Wq.h ?_ ?_)<;>intro h<;>try (exfalso;omega)|(with_reducible refine Wu.h ?_ ?_)<;>intro h<;>try simp only [h]|((fail_if_success with_reducible refine Wz.h ?_);first|simp (disch:=omega) only [↓LD,LA,loadA_rf,seval,LEv]|((with_reducible refine And.intro ?_ ?_);omega)|simp only [D.int,D.bool]))
  refine HS.view (View.bcell 1 5 (.f (.s [] 0)) rfl rfl .ns) ?_
  refine HS.view (View.void 51) ?_
  refine HS.view (View.void 57) ?_
  refine HS.view (View.void 60) ?_
  refine HS.view (View.bcell 1 6 (.sl 2 0 0) rfl rfl (.no (by show 2 < 5;omega))) ?_
  refine HS.view (View.bcell 1 7 (.sl 3 0 0) rfl rfl (.no (by show 3 < 5;omega))) ?_
  refine HS.view (View.bcell 1 8 (.sl 4 0 0) rfl rfl (.no (by show 4 < 5;omega))) ?_
  refine HS.loopG [2,4,9,10,11] (fun x : Nat × S12=>⟨frm 23 [(2,.pt 0 0),(4,.pt 1 0),(9,.f (fEv l)),(10,D.int l.length),(11,D.int x.1)],[.box 29 [jI,jI,jI,jI,jF,jN,jN,jN,jN],.box 29 (stL 2 3 4 x.2),rN x.2.nodes,rT x.2.tms,rS x.2.sgs],[]⟩)
    (fun x=>x.1 ≤ l.length ∧ Ok12 x.2 ∧ foldR s0 l = foldR x.2 (l.drop x.1)) (fun x=>l.length - x.1) (0,s0) (by kernel_rfl) ⟨Nat.zero_le _,ok12_0,rfl⟩ ?_
  rintro ⟨i,s⟩ ⟨hi,ho,hF⟩
  dsimp only at hi ho hF
  by_cases hil : i < l.length
  · rw [drop_gt hil,foldR] at hF
    have hv:=hf _ (gt_mem hil)
    have he:=applyL_eq (e:=gt l i) ho
    unfold applyL at he
    obtain ⟨hA,_,_⟩:=ho.fitA
    have hid:=ho.id
    have ho2:=ok12_apply (e:=gt l i) ho hv.2.2.2
    repeat' (first|(with_reducible first|refine Wx.h ?_|refine Wb.h fun K hK=>?_|(refine hK _ ?_;clear hK K)|(refine wT ?_ ?_;· assumption)|(refine wF ?_ ?_;· assumption))|((with_reducible refine kQ ?_ ?_);kernel_rfl)|((with_reducible refine k1 ?_ ?_);rfl)|((with_reducible refine k0 ?_ ?_);rfl)|((with_reducible apply kB)<;>first|rfl|intro h)|((with_reducible refine kM ?_ ?_);rfl)|(with_reducible refine Wq.h ?_ ?_)<;>intro h<;>try (exfalso;omega)|(with_reducible refine Wu.h ?_ ?_)<;>intro h<;>try simp only [h]|((fail_if_success with_reducible refine Wz.h ?_);first|simp (disch:=omega) only [↓LD,LA,loadA_rf,seval,LEv,load_fEv,len_fEv,Ev.cs,stL,rN,rT,rS,-loadA_rf,List.map_cons,List.map_nil]|((with_reducible refine And.intro ?_ ?_);omega)|simp only [D.int,D.bool]))
    refine callW_emb (c_st_apply s (gt l i) hA hv.1 hv.2.2 ⟨hid.1,by omega⟩) [1,2,3,4] (by kernel_rfl) rfl rfl ?_
    rintro _ _ ⟨rfl,m,rfl⟩
    generalize applyT s (gt l i) = p at he ⊢
    obtain ⟨v,s'⟩:=p
    dsimp only at he ⊢
    rcases m with _|_|_|m
    · simp (disch:=omega) only [↓LD,LA,loadA_rf,seval,ren,List.getElem?_nil,stM,stH,stL,rN,rT,rS]
      repeat' (first|(with_reducible first|refine Wx.h ?_|refine Wb.h fun K hK=>?_|(refine hK _ ?_;clear hK K)|(refine wT ?_ ?_;· assumption)|(refine wF ?_ ?_;· assumption))|((with_reducible refine kQ ?_ ?_);kernel_rfl)|((with_reducible refine k1 ?_ ?_);rfl)|((with_reducible refine k0 ?_ ?_);rfl)|((with_reducible apply kB)<;>first|rfl|intro h)|((with_reducible refine kM ?_ ?_);rfl)|(with_reducible refine Wq.h ?_ ?_)<;>intro h<;>try (exfalso;omega)|(with_reducible refine Wu.h ?_ ?_)<;>intro h<;>try simp only [h]|((fail_if_success with_reducible refine Wz.h ?_);first|simp (disch:=omega) only [↓LD,LA,loadA_rf,seval]|((with_reducible refine And.intro ?_ ?_);omega)|simp only [D.int,D.bool]))
      · have hv0 : v = 0:=by assumption
        rw [if_pos hv0] at he
        rw [← he] at hF ho2
        rw [if_pos rfl] at hF
        exact Next.mk (i + 1,s') (by kernel_rfl) ⟨by dsimp only;omega,ho2 rfl,hF⟩ (by dsimp only;omega)
      · have hv0 : ¬ v = 0:=by assumption
        rw [if_neg hv0] at he
        rw [← he,if_neg hv0] at hF
        rw [hF]
        exact RetS.still (ds:=[.ag [jI,jI,jI,jI,jF,jN,jN,jN,jN],D.int v]) (by kernel_rfl) (by kernel_rfl) (.tps (.cons (.ags (.cons .f (.cons .f (.cons .f (.cons .f (.cons .f (.cons .nil (.cons .nil (.cons .nil (.cons .nil .nil)))))))))) (.cons .f .nil))) ⟨rfl,rfl⟩
    · simp (disch:=omega) only [↓LD,LA,loadA_rf,seval,ren,List.getElem?_nil,stM,stH,stL,rN,rT,rS]
      repeat' (first|(with_reducible first|refine Wx.h ?_|refine Wb.h fun K hK=>?_|(refine hK _ ?_;clear hK K)|(refine wT ?_ ?_;· assumption)|(refine wF ?_ ?_;· assumption))|((with_reducible refine kQ ?_ ?_);kernel_rfl)|((with_reducible refine k1 ?_ ?_);rfl)|((with_reducible refine k0 ?_ ?_);rfl)|((with_reducible apply kB)<;>first|rfl|intro h)|((with_reducible refine kM ?_ ?_);rfl)|(with_reducible refine Wq.h ?_ ?_)<;>intro h<;>try (exfalso;omega)|(with_reducible refine Wu.h ?_ ?_)<;>intro h<;>try simp only [h]|((fail_if_success with_reducible refine Wz.h ?_);first|simp (disch:=omega) only [↓LD,LA,loadA_rf,seval]|((with_reducible refine And.intro ?_ ?_);omega)|simp only [D.int,D.bool]))
      · have hv0 : v = 0:=by assumption
        rw [if_pos hv0] at he
        rw [← he] at hF ho2
        rw [if_pos rfl] at hF
        exact Next.mk (i + 1,s') (by kernel_rfl) ⟨by dsimp only;omega,ho2 rfl,hF⟩ (by dsimp only;omega)
      · have hv0 : ¬ v = 0:=by assumption
        rw [if_neg hv0] at he
        rw [← he,if_neg hv0] at hF
        rw [hF]
        exact RetS.still (ds:=[.ag [jI,jI,jI,jI,jF,jN,jN,jN,jN],D.int v]) (by kernel_rfl) (by kernel_rfl) (.tps (.cons (.ags (.cons .f (.cons .f (.cons .f (.cons .f (.cons .f (.cons .nil (.cons .nil (.cons .nil (.cons .nil .nil)))))))))) (.cons .f .nil))) ⟨rfl,rfl⟩
    · simp (disch:=omega) only [↓LD,LA,loadA_rf,seval,ren,List.getElem?_nil,stM,stH,stL,rN,rT,rS]
      repeat' (first|(with_reducible first|refine Wx.h ?_|refine Wb.h fun K hK=>?_|(refine hK _ ?_;clear hK K)|(refine wT ?_ ?_;· assumption)|(refine wF ?_ ?_;· assumption))|((with_reducible refine kQ ?_ ?_);kernel_rfl)|((with_reducible refine k1 ?_ ?_);rfl)|((with_reducible refine k0 ?_ ?_);rfl)|((with_reducible apply kB)<;>first|rfl|intro h)|((with_reducible refine kM ?_ ?_);rfl)|(with_reducible refine Wq.h ?_ ?_)<;>intro h<;>try (exfalso;omega)|(with_reducible refine Wu.h ?_ ?_)<;>intro h<;>try simp only [h]|((fail_if_success with_reducible refine Wz.h ?_);first|simp (disch:=omega) only [↓LD,LA,loadA_rf,seval]|((with_reducible refine And.intro ?_ ?_);omega)|simp only [D.int,D.bool]))
      · have hv0 : v = 0:=by assumption
        rw [if_pos hv0] at he
        rw [← he] at hF ho2
        rw [if_pos rfl] at hF
        exact Next.mk (i + 1,s') (by kernel_rfl) ⟨by dsimp only;omega,ho2 rfl,hF⟩ (by dsimp only;omega)
      · have hv0 : ¬ v = 0:=by assumption
        rw [if_neg hv0] at he
        rw [← he,if_neg hv0] at hF
        rw [hF]
        exact RetS.still (ds:=[.ag [jI,jI,jI,jI,jF,jN,jN,jN,jN],D.int v]) (by kernel_rfl) (by kernel_rfl) (.tps (.cons (.ags (.cons .f (.cons .f (.cons .f (.cons .f (.cons .f (.cons .nil (.cons .nil (.cons .nil (.cons .nil .nil)))))))))) (.cons .f .nil))) ⟨rfl,rfl⟩
    · simp (disch:=omega) only [↓LD,LA,loadA_rf,seval,ren,List.getElem?_nil,stM,stH,stL,rN,rT,rS]
      repeat' (first|(with_reducible first|refine Wx.h ?_|refine Wb.h fun K hK=>?_|(refine hK _ ?_;clear hK K)|(refine wT ?_ ?_;· assumption)|(refine wF ?_ ?_;· assumption))|((with_reducible refine kQ ?_ ?_);kernel_rfl)|((with_reducible refine k1 ?_ ?_);rfl)|((with_reducible refine k0 ?_ ?_);rfl)|((with_reducible apply kB)<;>first|rfl|intro h)|((with_reducible refine kM ?_ ?_);rfl)|(with_reducible refine Wq.h ?_ ?_)<;>intro h<;>try (exfalso;omega)|(with_reducible refine Wu.h ?_ ?_)<;>intro h<;>try simp only [h]|((fail_if_success with_reducible refine Wz.h ?_);first|simp (disch:=omega) only [↓LD,LA,loadA_rf,seval]|((with_reducible refine And.intro ?_ ?_);omega)|simp only [D.int,D.bool]))
      · have hv0 : v = 0:=by assumption
        rw [if_pos hv0] at he
        rw [← he] at hF ho2
        rw [if_pos rfl] at hF
        exact Next.mk (i + 1,s') (by kernel_rfl) ⟨by dsimp only;omega,ho2 rfl,hF⟩ (by dsimp only;omega)
      · have hv0 : ¬ v = 0:=by assumption
        rw [if_neg hv0] at he
        rw [← he,if_neg hv0] at hF
        rw [hF]
        exact RetS.still (ds:=[.ag [jI,jI,jI,jI,jF,jN,jN,jN,jN],D.int v]) (by kernel_rfl) (by kernel_rfl) (.tps (.cons (.ags (.cons .f (.cons .f (.cons .f (.cons .f (.cons .f (.cons .nil (.cons .nil (.cons .nil (.cons .nil .nil)))))))))) (.cons .f .nil))) ⟨rfl,rfl⟩
  · repeat' (first|(with_reducible first|refine Wx.h ?_|refine Wb.h fun K hK=>?_|(refine hK _ ?_;clear hK K)|(refine wT ?_ ?_;· assumption)|(refine wF ?_ ?_;· assumption))|((with_reducible refine kQ ?_ ?_);kernel_rfl)|((with_reducible refine k1 ?_ ?_);rfl)|((with_reducible refine k0 ?_ ?_);rfl)|((with_reducible apply kB)<;>first|rfl|intro h)|((with_reducible refine kM ?_ ?_);rfl)|(with_reducible refine Wq.h ?_ ?_)<;>intro h<;>try (exfalso;omega)|(with_reducible refine Wu.h ?_ ?_)<;>intro h<;>try simp only [h]|((fail_if_success with_reducible refine Wz.h ?_);first|simp (disch:=omega) only [↓LD,LA,loadA_rf,seval,LEv,stL,rN,rT,rS]|((with_reducible refine And.intro ?_ ?_);omega)|simp only [D.int,D.bool]))
    rw [List.drop_of_length_le (by omega),foldR] at hF
    rw [hF]
    exact RetS.still (ds:=[.ag (stL 2 3 4 s),D.int 0]) (by kernel_rfl) (by kernel_rfl) (.tps (.cons (vws_stL rfl rfl rfl) (.cons .f .nil))) ⟨rfl,rfl⟩
def s_law_known : SCode :=
  (jq ([.a 0 (.mv kF)]) (jq ((ap [.a 4 (.bld [jN,jI,jI] [(1,1,(kI 1)),(2,1,(kI 5))]),.a 5 (.bsl 48 3 1 [jN,jI,jI] [(0,(.t 4))]),.a 6 (.bld
 [jI,jI,jI,jI,jI,jI,(.f (.v (.string ⟨#[]⟩))),jN,jN] [(0,1,(kI 1)),(1,1,(kI 1)),(3,1,(kI 1)),(8,1,(.t 5))]),.a 7 (.bld [jI,jI,jI,
 jI,jI,jI,(.f (.v (.string ⟨#[]⟩))),jN,jN] [(0,1,(kI 2)),(1,1,(kI 1)),(3,1,(kI 2)),(5,1,(kI 1))]),.a 8 (.bld [jI,jI,jI,jI,jI,jI,
 (.f (.v (.string ⟨#[]⟩))),jN,jN] [(0,1,(kI 3)),(1,1,(kI 1)),(3,1,(kI 3)),(5,1,(kI 1))]),.a 9 (.bsl 42 9 3 [jI,jI,jI,jI,jI,jI,(.f
 (.v (.string ⟨#[]⟩))),jN,jN,jI,jI,jI,jI,jI,jI,(.f (.v (.string ⟨#[]⟩))),jN,jN,jI,jI,jI,jI,jI,jI,(.f (.v (.string ⟨#[]⟩))),jN,jN]
 [(0,(.t 6)),(9,(.t 7)),(18,(.t 8))]),.a 10 (.call (kC 11) [(.t 9)])] [jm 3 10,jE 11 0 3,jE 12 1 3,.a 1 (.alloc 29 [jI,jI,jI,jI,jF,jN,jN,
 jN,jN]),.n (.store 9 (.t 1) (.t 11)),jm 2 12])) (jq ((ap [jm 13 2,jb 14 .eql 13 0] (ap [jm 15 14,jG 16 (.loadA 9 (.t 1)) 15 true] (ap [jG 17
 (.call (kC 16) [(.t 16)]) 15 true] (ap [jG 18 (.bin .eql (.t 17) (kI 9)) 15 true] (ap [.a 19 (.pick (.t 15) (.t 18) kF),jm 20 19,gO 21 6 1 20 true]
 (ap [gL 22 21 20 true,jG 23 (.slen (.t 22)) 20 true,jG 24 (.bin .eql (.t 23) (kI 1)) 20 true] (ap [.a 25 (.pick (.t 20) (.t 24) kF),jm 26 25,gO 27
 6 1 26 true] (ap [gL 28 27 26 true,jG 29 (.idx 4 (.t 28) (kI 0)) 26 true,gO 30 0 29 26 true,gL 31 30 26 true,jG 32 (.bin .eql (.t 31) (kI 2)) 26
 true] (ap [.a 33 (.pick (.t 26) (.t 32) kF),jm 34 33,gO 35 0 1 34 true] (ap [gL 36 35 34 true,jG 37 (.bin .eql (.t 36) (kI 3)) 34 true] [.a 38
 (.pick (.t 34) (.t 37) kF),jm 0 38]))))))))))) .ret)))
theorem fn_law_known : Fn Tryz.prog 8 39 [.t 0] s_law_known:=.of Tryz.func8 (by kernel_rfl)
set_option maxHeartbeats 4000000
def knE : List Ev:=[⟨1,1,0,1,0,0,[],[],[⟨[],1,5⟩]⟩,⟨2,1,0,2,0,1,[],[],[]⟩,⟨3,1,0,3,0,1,[],[],[]⟩]
def knS : S12:=⟨3,1,0,0,false,[⟨[],1,5⟩],[⟨2,1,0,[]⟩],[],[]⟩
theorem knF : foldR s0 knE = (0,knS):=by kernel_rfl
set_option maxRecDepth 100000 in
theorem c_st_known : Con Tryz.prog 8 [] [] fun r H'=>r = D.bool true ∧ H' = []:=by
  refine Con.walk good fn_law_known (by simp) ?_
  unfold s_law_known
  simp only [argsE]
  repeat' (first|(with_reducible first|refine Wx.h ?_|refine Wb.h fun K hK=>?_|(refine hK _ ?_;clear hK K)|(refine wT ?_ ?_;· assumption)|(refine wF ?_ ?_;· assumption))|((with_reducible refine kQ ?_ ?_);kernel_rfl)|((with_reducible refine k1 ?_ ?_);rfl)|((with_reducible refine k0 ?_ ?_);rfl)|((with_reducible apply kB)<;>first|rfl|intro h)|((with_reducible refine kM ?_ ?_);rfl)|(with_reducible refine Wq.h ?_ ?_)<;>intro h<;>try (exfalso;omega)|(with_reducible refine Wu.h ?_ ?_)<;>intro h<;>try simp only [h]|((fail_if_success with_reducible refine Wz.h ?_);first|simp (disch:=omega) only [↓LD,LA,loadA_rf,seval]|((with_reducible refine And.intro ?_ ?_);omega)|simp only [D.int,D.bool]))
  refine bind'_of (a:=([iF 1,iF 1,iF 0,iF 1,iF 0,iF 0,.v (.string ⟨#[]⟩),.v (.slice none 0 0),.s [.v (.slice none 0 0),iF 1,iF 5] 1,iF 2,iF 1,iF 0,iF 2,iF 0,iF 1,.v (.string ⟨#[]⟩),.v (.slice none 0 0),.v (.slice none 0 0),iF 3,iF 1,iF 0,iF 3,iF 0,iF 1,.v (.string ⟨#[]⟩),.v (.slice none 0 0),.v (.slice none 0 0)],[(0,.froz 48 [.v (.slice none 0 0),iF 1,iF 5])])) (by kernel_rfl) ?_
  simp only [applyUpd,List.set_cons_zero,List.cons_append,List.nil_append]
  refine callW_lay [1] (args0:=[.f (.s [iF 1,iF 1,iF 0,iF 1,iF 0,iF 0,.v (.string ⟨#[]⟩),.v (.slice none 0 0),.s [.v (.slice none 0 0),iF 1,iF 5] 1,iF 2,iF 1,iF 0,iF 2,iF 0,iF 1,.v (.string ⟨#[]⟩),.v (.slice none 0 0),.v (.slice none 0 0),iF 3,iF 1,iF 0,iF 3,iF 0,iF 1,.v (.string ⟨#[]⟩),.v (.slice none 0 0),.v (.slice none 0 0)] 3)]) (.cons (.sl (T:=42) (xs:=[iF 1,iF 1,iF 0,iF 1,iF 0,iF 0,.v (.string ⟨#[]⟩),.v (.slice none 0 0),.s [.v (.slice none 0 0),iF 1,iF 5] 1,iF 2,iF 1,iF 0,iF 2,iF 0,iF 1,.v (.string ⟨#[]⟩),.v (.slice none 0 0),.v (.slice none 0 0),iF 3,iF 1,iF 0,iF 3,iF 0,iF 1,.v (.string ⟨#[]⟩),.v (.slice none 0 0),.v (.slice none 0 0)]) rfl (fun e=>by cases e)) .nil) ?_
  simp only [layV,List.foldr_cons,List.foldr_nil,List.set_cons_succ,List.set_cons_zero]
  refine callW_less (args0:=[.f (fEv knE)]) ?_ (.cons (.f (WF.ls ?_)) .nil)
  rotate_left
  · simp only [knE,Ev.cs,fG,fY,Nd.cs,fI,List.flatMap_cons,List.flatMap_nil,List.append_nil,List.map_nil,List.length_nil,List.length_cons,List.cons_append,List.nil_append,Nat.zero_add]
    repeat' (first|exact WDs.nil|refine WDs.cons ?_ ?_|exact WD.refl|exact WD.f .ns|exact WD.f .es|refine WD.ags ?_|refine WD.f (WF.ls ?_)|exact WFs.nil|refine WFs.cons ?_ ?_|exact WF.refl|exact WF.ns|exact WF.es)
    refine WF.ls ?_
    repeat' (first|exact WDs.nil|refine WDs.cons ?_ ?_|exact WD.refl|exact WD.f .ns|exact WD.f .es|refine WD.ags ?_|refine WD.f (WF.ls ?_)|exact WFs.nil|refine WFs.cons ?_ ?_|exact WF.refl|exact WF.ns|exact WF.es)
  refine callW_pure (c_st_Fold knE (by decide) (by intro e he;simp only [knE,List.mem_cons,List.not_mem_nil,or_false] at he;rcases he with rfl|rfl|rfl<;>exact ⟨by simp,by simp,⟨by simp,by simp⟩⟩)) rfl rfl rfl ?_
  rw [knF]
  repeat' (first|(with_reducible first|refine Wx.h ?_|refine Wb.h fun K hK=>?_|(refine hK _ ?_;clear hK K)|(refine wT ?_ ?_;· assumption)|(refine wF ?_ ?_;· assumption))|((with_reducible refine kQ ?_ ?_);kernel_rfl)|((with_reducible refine k1 ?_ ?_);rfl)|((with_reducible refine k0 ?_ ?_);rfl)|((with_reducible apply kB)<;>first|rfl|intro h)|((with_reducible refine kM ?_ ?_);rfl)|(with_reducible refine Wq.h ?_ ?_)<;>intro h<;>try (exfalso;omega)|(with_reducible refine Wu.h ?_ ?_)<;>intro h<;>try simp only [h]|((fail_if_success with_reducible refine Wz.h ?_);first|simp (disch:=omega) only [↓LD,LA,loadA_rf,seval,stD]|((with_reducible refine And.intro ?_ ?_);omega)|simp only [D.int,D.bool]))
  have h1 : knS.nodes.length = 1:=rfl
  have h2 : (gt knS.nodes 0).st = 2:=rfl
  have h3 : knS.id = 3:=rfl
  have h4 : endingL knS = 9:=by kernel_rfl
  refine callW_pure (c_st_Ending knS (by rw [h1];omega)) rfl rfl rfl ?_
  rw [h4]
  have h5:=at0_fNn (g:=knS.nodes) (k:=0) (by rw [h1];omega)
  rw [Nat.zero_mul] at h5
  repeat' (first|(with_reducible first|refine Wx.h ?_|refine Wb.h fun K hK=>?_|(refine hK _ ?_;clear hK K)|(refine wT ?_ ?_;· assumption)|(refine wF ?_ ?_;· assumption))|((with_reducible refine kQ ?_ ?_);kernel_rfl)|((with_reducible refine k1 ?_ ?_);rfl)|((with_reducible refine k0 ?_ ?_);rfl)|((with_reducible apply kB)<;>first|rfl|intro h)|((with_reducible refine kM ?_ ?_);rfl)|(with_reducible refine Wq.h ?_ ?_)<;>intro h<;>try (exfalso;omega)|(with_reducible refine Wu.h ?_ ?_)<;>intro h<;>try simp only [h]|((fail_if_success with_reducible refine Wz.h ?_);first|simp (disch:=omega) only [↓LD,LA,loadA_rf,seval,LSt,h1,h2,h3,h5,len_fNn,Nn.cs]|((with_reducible refine And.intro ?_ ?_);omega)|simp only [D.int,D.bool]))
  exact end1 rfl rfl (by kernel_rfl) .f ⟨rfl,rfl⟩
instance {H : List Row} {K : D → List Row → Prop} : Wa (callW Tryz.prog (.fn 8 []) [] H K) (K (.f (.v (.bool true))) H):=⟨fun h=>callW_pure c_st_known rfl rfl rfl h⟩
def s_law_StateParts : SCode :=
  (jq ([.a 6 (.mv kF)]) (jq ((ap [jm 13 0,jm 14 1,.a 15 (.call (kC 6) [(.t 13),(.t 14)])] [jm 7 15])) (jq ((ap [jm 16 2,jm 17 7,je 18 17,jb 19 .add
 18 1,.a 20 (.call (kC 7) [(.t 16),(.t 19)])] [jm 2 20])) (jq ((ap [jm 22 7,jm 23 2,.a 24 (.sub 9 42 (.t 22) none (some (.t 23)) none),.a 25 (.call
 (kC 11) [(.t 24)])] [jm 21 25,jE 26 0 21,jE 27 1 21,.a 8 (.alloc 29 [jI,jI,jI,jI,jF,jN,jN,jN,jN]),.n (.store 9 (.t 8) (.t 26)),jm 9 27]))
 (.seq (jq ([jm 28 2,jm 10 28]) (.block 0 (.loop (.seq (jq ((ap [jm 29 10,jm 30 7,je 31 30,jB 32 .lss 29 31] (ap [jm 33 32,gM 34 9 33 true] (ap [jG
 35 (.bin .eql (.t 34) (kI 0)) 33 true] [.a 36 (.pick (.t 33) (.t 35) kF)])))) (jc 36 .skip (.exit 0))) (.seq (.block 1 (.drw [jL 40 9 8,jm 41 7,jm 42
 10,jx 43 9 41 42,jL 44 9 43,.a 45 (.call (kC 12) [(.t 40),(.t 44)]),jm 39 45,jE 46 0 39,jE 47 1 39,.n (.store 9 (.t 8) (.t 46)),jm 9 47] [0,
 0,0,6,14,31,63,127,127,255,1023])) (.ops [jm 37 10,jb 38 .add 37 1,jm 10 38])))))) (jq ((ap [jm 49 7,.a 50 (.call (kC 11) [(.t 49)])] [jm
 48 50,jE 51 0 48,jE 52 1 48,.a 11 (.alloc 29 [jI,jI,jI,jI,jF,jN,jN,jN,jN]),.n (.store 9 (.t 11) (.t 51)),jm 12 52])) (jq ((ap [.a 53
 (.call (kC 8) [])] (ap [jm 54 53,gM 55 9 54 true] (ap [jG 56 (.bin .eql (.t 55) (kI 0)) 54 true] (ap [.a 57 (.pick (.t 54) (.t 56) kF),jm 58 57,gM
 59 12 58 true] (ap [jG 60 (.bin .eql (.t 59) (kI 0)) 58 true] (ap [.a 61 (.pick (.t 58) (.t 60) kF),jm 62 61,jG 63 (.loadA 9 (.t 8)) 62 true] (ap [jG
 64 (.loadA 9 (.t 11)) 62 true,jG 65 (.call (kC 9) [(.t 63),(.t 64)]) 62 true] (ap [.a 66 (.pick (.t 62) (.t 65) kF),jm 67 66,gM 68 7 67 true] (ap
 [jG 69 (.call (kC 13) [(.t 68)]) 67 true] (ap [.a 70 (.pick (.t 67) (.t 69) kF),jm 71 70,gO 72 0 11 71 true] (ap [gL 73 72 71 true,gM 74 7 71 true,
 jG 75 (.slen (.t 74)) 71 true,jG 76 (.bin .eql (.t 73) (.t 75)) 71 true] [.a 77 (.pick (.t 71) (.t 76) kF),jm 6 77])))))))))))) .ret)))))))
theorem fn_law_StateParts : Fn Tryz.prog 4 78 [.t 6] s_law_StateParts:=.of Tryz.func4 (by kernel_rfl)
end Go.Proofs.YtgbbpelfpagdoaaGreatDoor.Mir
