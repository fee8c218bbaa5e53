/- Texts laid into one file: PlC, PlD, RgJ, CLaw12K, KnA, LgB, StateLegalIn. -/
import Derived.Test.YtgbbpelfpagdoaaDoorLg14
set_option linter.unusedVariables false
set_option linter.unusedSimpArgs false
namespace Go.Proofs.YtgbbpelfpagdoaaDoor.Mir
open Go Go.RowKit
set_option maxHeartbeats 4000000
theorem take_fEv {g : List Ev} {k : Nat} (hk : k < g.length) : ((g.flatMap Ev.cs).drop (k * 9)).take 9 = Ev.cs (gt g k):=flat_take Ev.cs_len hk
def rEv (l : List Ev) : Row:=.data 38 (l.flatMap Ev.cs)
set_option maxRecDepth 100000 in
theorem c_ref_FoldL (l : List Ev) (hl : l.length ≤ 1000000) (hf : ∀ e ∈ l,FitV e) : Con Tryd.prog 32 [.sl 0 0 l.length] [rEv l] fun r H'=>r = .tp [stD (foldR s0 l).2,D.int (foldR s0 l).1] ∧ H' = [rEv l]:=by
  refine Con.walk good fn_ref_Fold (by simp) ?_
  unfold s_ref_Fold
  simp only [argsE]
  repeat' (first|(with_reducible first|refine Wx.h ?_|refine Wb.h fun K hK=>?_|(refine hK _ ?_;clear hK K)|(refine wT ?_ ?_;· assumption)|(refine wF ?_ ?_;· assumption))|((with_reducible refine kQ ?_ ?_);kernel_rfl)|((with_reducible refine k1 ?_ ?_);rfl)|((with_reducible refine k0 ?_ ?_);rfl)|((with_reducible apply kB)<;>first|rfl|intro h)|((with_reducible refine kM ?_ ?_);rfl)|(with_reducible refine Wq.h ?_ ?_)<;>intro h<;>try (exfalso;omega)|(with_reducible refine Wu.h ?_ ?_)<;>intro h<;>try simp only [h]|((fail_if_success with_reducible refine Wz.h ?_);first|simp (disch:=omega) only [↓LD,LA,loadA_rf,seval,rEv]|((with_reducible refine And.intro ?_ ?_);omega)|simp only [D.int,D.bool]))
  refine HS.view (View.bcell 2 5 (.f (.s [] 0)) rfl rfl .ns) ?_
  refine HS.view (View.bcell 2 6 (.f (.s [] 0)) rfl rfl .ns) ?_
  refine HS.view (View.bcell 2 7 (.f (.s [] 0)) rfl rfl .ns) ?_
  refine HS.view (View.bcell 2 8 (.f (.s [] 0)) rfl rfl .ns) ?_
  refine HS.loopG [0,2,4,5] (fun x : Nat × S12=>⟨frm 27 [(0,.sl 0 0 l.length),(2,.pt 1 0),(4,.pt 2 0),(5,D.int x.1)],[rEv l,.box 31 [jI,jI,jI,jI,jF,jN,jN,jN,jN],stF x.2],[]⟩)
    (fun x=>x.1 ≤ l.length ∧ Ok12 x.2 ∧ foldR s0 l = foldR x.2 (l.drop x.1)) (fun x=>l.length - x.1) (0,s0) (by kernel_rfl) ⟨Nat.zero_le _,ok12_0,rfl⟩ ?_
  rintro ⟨i,s⟩ ⟨hi,ho,hF⟩
  dsimp only at hi ho hF
  by_cases hil : i < l.length
  · rw [drop_gt hil,foldR] at hF
    have hv:=hf _ (gt_mem hil)
    haveI : Kn (Wk12 s):=⟨ho.wk⟩
    haveI : Kn (FitV (gt l i)):=⟨hv⟩
    repeat' (first|(with_reducible first|refine Wx.h ?_|refine We.h fun K hK=>?_|refine Wd.h fun K M hK hM=>?_|(refine hK _ _ _ _ ?_;clear hK K;try clear hM M)|(refine hM ?_;clear hM M;try clear hK K)|refine Wb.h fun K hK=>?_|(refine hK _ ?_;clear hK K)|(refine wT ?_ ?_;· assumption)|(refine wF ?_ ?_;· assumption))|((with_reducible refine kQ ?_ ?_);kernel_rfl)|((with_reducible refine k1 ?_ ?_);rfl)|((with_reducible refine k0 ?_ ?_);rfl)|((with_reducible apply kB)<;>first|rfl|intro h)|((with_reducible refine kM ?_ ?_);rfl)|(with_reducible refine Wq.h ?_ ?_)<;>intro h<;>try (exfalso;omega)|(with_reducible refine Wu.h ?_ ?_)<;>intro h<;>try simp only [h]|((fail_if_success with_reducible refine Wz.h ?_);first|simp (disch:=omega) only [↓LD,LA,loadA_rf,seval,rEv,take_fEv,len_fEv,Ev.cs,stF,List.map_cons,List.map_nil]|((with_reducible refine And.intro ?_ ?_);omega)|simp only [D.int,D.bool]))
    · have hz : (applyR s (gt l i)).1 = 0:=by assumption
      rw [if_pos hz] at hF
      have ho2:=ok12_apply ho hv.2.2.2 hz
      exact Next.mk (i + 1,(applyR s (gt l i)).2) (by kernel_rfl) ⟨by dsimp only;omega,ho2,hF⟩ (by dsimp only;omega)
    · rw [if_neg (by assumption)] at hF
      rw [hF]
      exact RetS.still (ds:=[.ag [jI,jI,jI,jI,jF,jN,jN,jN,jN],D.int (applyR s (gt l i)).1]) (by kernel_rfl) (by kernel_rfl) (.tps (.cons (.ags (.cons .f (.cons .f (.cons .f (.cons .f (.cons .f (.cons .nil (.cons .nil (.cons .nil (.cons .nil .nil)))))))))) (.cons .f .nil))) ⟨rfl,rfl⟩
  · repeat' (first|(with_reducible first|refine Wx.h ?_|refine Wb.h fun K hK=>?_|(refine hK _ ?_;clear hK K)|(refine wT ?_ ?_;· assumption)|(refine wF ?_ ?_;· assumption))|((with_reducible refine kQ ?_ ?_);kernel_rfl)|((with_reducible refine k1 ?_ ?_);rfl)|((with_reducible refine k0 ?_ ?_);rfl)|((with_reducible apply kB)<;>first|rfl|intro h)|((with_reducible refine kM ?_ ?_);rfl)|(with_reducible refine Wq.h ?_ ?_)<;>intro h<;>try (exfalso;omega)|(with_reducible refine Wu.h ?_ ?_)<;>intro h<;>try simp only [h]|((fail_if_success with_reducible refine Wz.h ?_);first|simp (disch:=omega) only [↓LD,LA,loadA_rf,seval,rEv,stF]|((with_reducible refine And.intro ?_ ?_);omega)|simp only [D.int,D.bool]))
    rw [List.drop_of_length_le (by omega),foldR] at hF
    rw [hF]
    exact RetS.still (ds:=[stD s,D.int 0]) (by kernel_rfl) (by kernel_rfl) (.tps (.cons vws_stD (.cons .f .nil))) ⟨rfl,rfl⟩
theorem c_pen_NewL (l : List Ev) (ver now : Int) (hl : l.length ≤ 1000000) (hf : ∀ e ∈ l,FitV e) : Con Tryd.prog 21 [.sl 0 0 l.length,D.int ver,D.int now] [rEv l] fun r H' =>
    (newE l ver now ≠ 0 → r = .tp [.f (.v (.pointer none)),D.int (newE l ver now)] ∧ H' = [rEv l]) ∧ (newE l ver now = 0 → r = .tp [.pt 1 0,D.int 0] ∧ H' = [rEv l,pnB ⟨(foldR s0 l).2,ver,now,[]⟩]):=by
  suffices hh : ∀ Q : D → List Row → Prop,(∀ r H',((newE l ver now ≠ 0 → r = .tp [.f (.v (.pointer none)),D.int (newE l ver now)] ∧ H' = [rEv l]) ∧ (newE l ver now = 0 → r = .tp [.pt 1 0,D.int 0] ∧ H' = [rEv l,pnB ⟨(foldR s0 l).2,ver,now,[]⟩])) → Q r H') → Con Tryd.prog 21 [.sl 0 0 l.length,D.int ver,D.int now] [rEv l] Q from hh _ fun _ _ h=>h
  intro Q hQ
  haveI : Kn (l.length ≤ 1000000):=⟨hl⟩
  haveI : Kn (∀ e ∈ l,FitV e):=⟨hf⟩
  have hE : newE l ver now = newE l ver now:=rfl
  conv at hE=>rhs;unfold newE
  generalize newE l ver now = E at hQ hE
  generalize hF : foldR s0 l = p at hQ hE
  obtain ⟨v,s⟩:=p
  dsimp only at hE hQ
  refine Con.walk good fn_pen_New (by simp) ?_
  unfold s_pen_New
  simp only [argsE]
  repeat' (first|(with_reducible first|refine Wa.h ?_|refine Ws.h ?_|refine Wb.h fun K hK=>?_|(refine hK _ ?_;clear hK K)|(refine wT ?_ ?_;· assumption)|(refine wF ?_ ?_;· assumption))|((with_reducible refine kQ ?_ ?_);kernel_rfl)|((with_reducible refine k1 ?_ ?_);rfl)|((with_reducible refine k0 ?_ ?_);rfl)|((with_reducible apply kB)<;>first|rfl|intro h)|((with_reducible refine kM ?_ ?_);rfl)|(with_reducible refine Wq.h ?_ ?_)<;>intro h<;>try (exfalso;omega)|(with_reducible refine Wu.h ?_ ?_)<;>intro h<;>try simp only [h]|((fail_if_success with_reducible refine Wz.h ?_);first|simp (disch:=omega) only [↓LD,LA,loadA_rf,seval,rEv]|((with_reducible refine And.intro ?_ ?_);omega)|simp only [D.int,D.bool]))
  refine callW_emb (c_ref_FoldL l hl hf) [0] (by kernel_rfl) rfl rfl ?_
  rintro _ _ ⟨rfl,rfl⟩
  simp (disch:=omega) only [↓LD,LA,loadA_rf,seval,ren,List.getElem?_nil,rEv]
  rw [hF]
  repeat' (first|(with_reducible first|refine Wa.h ?_|refine Ws.h ?_|refine Wb.h fun K hK=>?_|(refine hK _ ?_;clear hK K)|(refine wT ?_ ?_;· assumption)|(refine wF ?_ ?_;· assumption))|((with_reducible refine kQ ?_ ?_);kernel_rfl)|((with_reducible refine k1 ?_ ?_);rfl)|((with_reducible refine k0 ?_ ?_);rfl)|((with_reducible apply kB)<;>first|rfl|intro h)|((with_reducible refine kM ?_ ?_);rfl)|(with_reducible refine Wq.h ?_ ?_)<;>intro h<;>try (exfalso;omega)|(with_reducible refine Wu.h ?_ ?_)<;>intro h<;>try simp only [h]|((fail_if_success with_reducible refine Wz.h ?_);first|simp (disch:=omega) only [↓LD,LA,loadA_rf,seval,rEv,stD]|((with_reducible refine And.intro ?_ ?_);omega)|simp only [D.int,D.bool]))
  · have hv : E = 1:=by rw [hE,if_neg (fun hh=>hh (show v = 0 by assumption)),if_pos (by assumption)]
    repeat' (first|(with_reducible first|refine Wx.h ?_|refine Wb.h fun K hK=>?_|(refine hK _ ?_;clear hK K)|(refine wT ?_ ?_;· assumption)|(refine wF ?_ ?_;· assumption))|((with_reducible refine kQ ?_ ?_);kernel_rfl)|((with_reducible refine k1 ?_ ?_);rfl)|((with_reducible refine k0 ?_ ?_);rfl)|((with_reducible apply kB)<;>first|rfl|intro h)|((with_reducible refine kM ?_ ?_);rfl)|(with_reducible refine Wq.h ?_ ?_)<;>intro h<;>try (exfalso;omega)|(with_reducible refine Wu.h ?_ ?_)<;>intro h<;>try simp only [h]|((fail_if_success with_reducible refine Wz.h ?_);first|simp (disch:=omega) only [↓LD,LA,loadA_rf,seval]|((with_reducible refine And.intro ?_ ?_);omega)|simp only [D.int,D.bool]))
    exact end2 rfl rfl rfl rfl (by kernel_rfl) (.tps (.cons .f (.cons .f .nil))) (hQ _ _ ⟨fun _=>⟨by rw [hv];rfl,rfl⟩,fun h=>by omega⟩)
  · have hv : E = 1:=by rw [hE,if_neg (fun hh=>hh (show v = 0 by assumption)),if_neg (by rw [show (!verB ver) = false by assumption];simp),if_pos (by assumption)]
    repeat' (first|(with_reducible first|refine Wx.h ?_|refine Wb.h fun K hK=>?_|(refine hK _ ?_;clear hK K)|(refine wT ?_ ?_;· assumption)|(refine wF ?_ ?_;· assumption))|((with_reducible refine kQ ?_ ?_);kernel_rfl)|((with_reducible refine k1 ?_ ?_);rfl)|((with_reducible refine k0 ?_ ?_);rfl)|((with_reducible apply kB)<;>first|rfl|intro h)|((with_reducible refine kM ?_ ?_);rfl)|(with_reducible refine Wq.h ?_ ?_)<;>intro h<;>try (exfalso;omega)|(with_reducible refine Wu.h ?_ ?_)<;>intro h<;>try simp only [h]|((fail_if_success with_reducible refine Wz.h ?_);first|simp (disch:=omega) only [↓LD,LA,loadA_rf,seval]|((with_reducible refine And.intro ?_ ?_);omega)|simp only [D.int,D.bool]))
    exact end2 rfl rfl rfl rfl (by kernel_rfl) (.tps (.cons .f (.cons .f .nil))) (hQ _ _ ⟨fun _=>⟨by rw [hv];rfl,rfl⟩,fun h=>by omega⟩)
  · have hv : E = 1:=by rw [hE,if_neg (fun hh=>hh (show v = 0 by assumption)),if_neg (by rw [show (!verB ver) = false by assumption];simp),if_neg (by assumption),if_pos (by assumption)]
    repeat' (first|(with_reducible first|refine Wx.h ?_|refine Wb.h fun K hK=>?_|(refine hK _ ?_;clear hK K)|(refine wT ?_ ?_;· assumption)|(refine wF ?_ ?_;· assumption))|((with_reducible refine kQ ?_ ?_);kernel_rfl)|((with_reducible refine k1 ?_ ?_);rfl)|((with_reducible refine k0 ?_ ?_);rfl)|((with_reducible apply kB)<;>first|rfl|intro h)|((with_reducible refine kM ?_ ?_);rfl)|(with_reducible refine Wq.h ?_ ?_)<;>intro h<;>try (exfalso;omega)|(with_reducible refine Wu.h ?_ ?_)<;>intro h<;>try simp only [h]|((fail_if_success with_reducible refine Wz.h ?_);first|simp (disch:=omega) only [↓LD,LA,loadA_rf,seval]|((with_reducible refine And.intro ?_ ?_);omega)|simp only [D.int,D.bool]))
    exact end2 rfl rfl rfl rfl (by kernel_rfl) (.tps (.cons .f (.cons .f .nil))) (hQ _ _ ⟨fun _=>⟨by rw [hv];rfl,rfl⟩,fun h=>by omega⟩)
  · have hv : E = 4:=by rw [hE,if_neg (fun hh=>hh (show v = 0 by assumption)),if_neg (by rw [show (!verB ver) = false by assumption];simp),if_neg (by assumption),if_neg (by assumption),if_pos (by assumption)]
    repeat' (first|(with_reducible first|refine Wx.h ?_|refine Wb.h fun K hK=>?_|(refine hK _ ?_;clear hK K)|(refine wT ?_ ?_;· assumption)|(refine wF ?_ ?_;· assumption))|((with_reducible refine kQ ?_ ?_);kernel_rfl)|((with_reducible refine k1 ?_ ?_);rfl)|((with_reducible refine k0 ?_ ?_);rfl)|((with_reducible apply kB)<;>first|rfl|intro h)|((with_reducible refine kM ?_ ?_);rfl)|(with_reducible refine Wq.h ?_ ?_)<;>intro h<;>try (exfalso;omega)|(with_reducible refine Wu.h ?_ ?_)<;>intro h<;>try simp only [h]|((fail_if_success with_reducible refine Wz.h ?_);first|simp (disch:=omega) only [↓LD,LA,loadA_rf,seval]|((with_reducible refine And.intro ?_ ?_);omega)|simp only [D.int,D.bool]))
    exact end2 rfl rfl rfl rfl (by kernel_rfl) (.tps (.cons .f (.cons .f .nil))) (hQ _ _ ⟨fun _=>⟨by rw [hv];rfl,rfl⟩,fun h=>by omega⟩)
  · have hv : E = 0:=by rw [hE,if_neg (fun hh=>hh (show v = 0 by assumption)),if_neg (by rw [show (!verB ver) = false by assumption];simp),if_neg (by assumption),if_neg (by assumption),if_neg (by assumption)]
    refine HS.view (View.bcell 2 11 (.f (.s [] 0)) rfl rfl .ns) ?_
    repeat' (first|(with_reducible first|refine Wx.h ?_|refine Wb.h fun K hK=>?_|(refine hK _ ?_;clear hK K)|(refine wT ?_ ?_;· assumption)|(refine wF ?_ ?_;· assumption))|((with_reducible refine kQ ?_ ?_);kernel_rfl)|((with_reducible refine k1 ?_ ?_);rfl)|((with_reducible refine k0 ?_ ?_);rfl)|((with_reducible apply kB)<;>first|rfl|intro h)|((with_reducible refine kM ?_ ?_);rfl)|(with_reducible refine Wq.h ?_ ?_)<;>intro h<;>try (exfalso;omega)|(with_reducible refine Wu.h ?_ ?_)<;>intro h<;>try simp only [h]|((fail_if_success with_reducible refine Wz.h ?_);first|simp (disch:=omega) only [↓LD,LA,loadA_rf,seval]|((with_reducible refine And.intro ?_ ?_);omega)|simp only [D.int,D.bool]))
    exact RetS.gather (ds:=[.pt 2 0,D.int 0]) (e:=⟨.tp [.pt 1 0,D.int 0],[(0,rEv l)],[pnB ⟨s,ver,now,[]⟩]⟩) (by kernel_rfl) (by kernel_rfl) (hQ _ _ ⟨fun h=>absurd hv h,fun _=>⟨rfl,rfl⟩⟩)
  · have hv : E = 1:=by rw [hE,if_pos (show v ≠ 0 by assumption)]
    repeat' (first|(with_reducible first|refine Wx.h ?_|refine Wb.h fun K hK=>?_|(refine hK _ ?_;clear hK K)|(refine wT ?_ ?_;· assumption)|(refine wF ?_ ?_;· assumption))|((with_reducible refine kQ ?_ ?_);kernel_rfl)|((with_reducible refine k1 ?_ ?_);rfl)|((with_reducible refine k0 ?_ ?_);rfl)|((with_reducible apply kB)<;>first|rfl|intro h)|((with_reducible refine kM ?_ ?_);rfl)|(with_reducible refine Wq.h ?_ ?_)<;>intro h<;>try (exfalso;omega)|(with_reducible refine Wu.h ?_ ?_)<;>intro h<;>try simp only [h]|((fail_if_success with_reducible refine Wz.h ?_);first|simp (disch:=omega) only [↓LD,LA,loadA_rf,seval]|((with_reducible refine And.intro ?_ ?_);omega)|simp only [D.int,D.bool]))
    exact end2 rfl rfl rfl rfl (by kernel_rfl) (.tps (.cons .f (.cons .f .nil))) (hQ _ _ ⟨fun _=>⟨by rw [hv];rfl,rfl⟩,fun h=>by omega⟩)
end Go.Proofs.YtgbbpelfpagdoaaDoor.Mir
namespace Go.Proofs.YtgbbpelfpagdoaaDoor.Mir
open Go Go.RowKit
set_option maxHeartbeats 4000000
structure BrOk (l : List Ev) : Prop where
  fold : (foldR s0 l).1 = 0
  fit : ∀ e ∈ l,FitV e
  sig : ∀ e ∈ l,SgN e
theorem BrOk.nil : BrOk []:=⟨rfl,fun e h=>by simp at h,fun e h=>by simp at h⟩
theorem BrOk.ok {l : List Ev} (h : BrOk l) : Ok12 (foldR s0 l).2:=foldR_ok ok12_0 h.fit h.fold
theorem BrOk.id {l : List Ev} (h : BrOk l) : (foldR s0 l).2.id = l.length:=by
  have:=foldR_id h.fold
  rw [this];simp [s0]
theorem BrOk.len {l : List Ev} (h : BrOk l) : l.length ≤ 200:=by
  have h1:=h.id
  have h2:=h.ok.id
  omega
theorem foldR_right : ∀ {l : List Ev} {s : S12},(foldR s l).1 = 0 → ∀ e ∈ l,rightE e = true
  | [],_,_,e,he=>by simp at he
  | x :: l,s,h,e,he=>by
    rw [foldR] at h
    by_cases a : (applyR s x).1 = 0
    · rw [if_pos a] at h
      rcases List.mem_cons.1 he with rfl|he
      · exact (applyR_ok a).1
      · exact foldR_right h e he
    · rw [if_neg a] at h;exact absurd h a
theorem BrOk.right {l : List Ev} (h : BrOk l) {e : Ev} (he : e ∈ l) : rightE e = true:=foldR_right h.fold e he
theorem BrOk.app {l : List Ev} {p : Pn} (h : BrOk l) (hp : PnT (foldR s0 l).2 p) : BrOk (l ++ p.out):=by
  refine ⟨by rw [foldR_app h.fold,hp.ok.out],fun e he=>?_,fun e he=>?_⟩
  rotate_left
  · rcases List.mem_append.1 he with he|he
    · exact h.sig e he
    · exact hp.sg e he
  rcases List.mem_append.1 he with he|he
  · exact h.fit e he
  · exact hp.ok.fit e he
theorem BrOk.pen {l : List Ev} (h : BrOk l) (v now : Int) : PnT (foldR s0 l).2 ⟨(foldR s0 l).2,v,now,[]⟩:=⟨⟨h.ok,h.ok,rfl,fun e he=>by simp at he⟩,fun e he=>by simp at he⟩
theorem newE_ok {l : List Ev} {v now : Int} (h : newE l v now = 0) : verB v = true ∧ 0 ≤ now ∧ now ≤ 1099511627776 ∧ (foldR s0 l).2.ver ≤ v:=by
  unfold newE at h
  split at h
  · cases h
  split at h
  · cases h
  split at h
  · cases h
  split at h
  · cases h
  split at h
  · cases h
  refine ⟨?_,by omega,by omega,by omega⟩
  cases hb : verB v with
  | true=>rfl
  | false=>simp_all
theorem verB_in {v : Int} (h : verB v = true) : 1 ≤ v ∧ v ≤ 1099511627776:=by
  simp only [verB,inI,Bool.and_eq_true,decide_eq_true_eq] at h;exact h.1
set_option maxRecDepth 100000 in
theorem c_play_More (l : List Ev) (hbr : BrOk l) (steps : List Rw) (defs : List Rd) : Con Tryd.prog 11 [.f (fEv l),.f (fRw steps),.f (fR defs)] [] fun r H'=>∃ out,r = .f (fEv out) ∧ BrOk out ∧ H' = []:=by
  suffices hh : ∀ Q : D → List Row → Prop,(∀ out,BrOk out → Q (.f (fEv out)) []) → Con Tryd.prog 11 [.f (fEv l),.f (fRw steps),.f (fR defs)] [] Q from hh _ fun out h=>⟨out,rfl,h,rfl⟩
  intro Q hQ
  have hll:=hbr.len
  refine Con.walk good fn_play_More (by simp) ?_
  unfold s_play_More
  simp only [argsE]
  have hlast : ∀ k : Nat,k < l.length → 1 ≤ (gt l k).ver ∧ (gt l k).ver ≤ 1099511627776 ∧ 0 ≤ (gt l k).time ∧ (gt l k).time ≤ 1099511627776:=fun k hk=>by
    have:=rightE_iff.1 (hbr.right (gt_mem hk))
    have hv:=verB_in this.2.2.1
    exact ⟨hv.1,hv.2,this.2.2.2.1.1,this.2.2.2.1.2⟩
  have hl0:=hlast ((l.length : Int) - 1).toNat
  by_cases hz : l.length = 0
  rotate_left
  have hl1:=hl0 (by omega)
  rotate_left
  obtain rfl:=List.eq_nil_of_length_eq_zero hz
  · repeat' (first|(with_reducible first|refine Wx.h ?_|refine Wb.h fun K hK=>?_|(refine hK _ ?_;clear hK K)|(refine wT ?_ ?_;· assumption)|(refine wF ?_ ?_;· assumption))|((with_reducible refine kQ ?_ ?_);kernel_rfl)|((with_reducible refine k1 ?_ ?_);rfl)|((with_reducible refine k0 ?_ ?_);rfl)|((with_reducible apply kB)<;>first|rfl|intro h)|((with_reducible refine kM ?_ ?_);rfl)|(with_reducible refine Wq.h ?_ ?_)<;>intro h<;>try (exfalso;omega)|(with_reducible refine Wu.h ?_ ?_)<;>intro h<;>try simp only [h]|((fail_if_success with_reducible refine Wz.h ?_);first|simp (disch:=omega) only [↓LD,LA,loadA_rf,seval,LEv,at1_fEv,at2_fEv,len_fEv,Ev.cs]|((with_reducible refine And.intro ?_ ?_);omega)|simp only [D.int,D.bool]))
    refine HS.loopG [1,2,7,8,9,10] (fun x : Nat × List Ev × Int × Int=>⟨frm 88 [(1,.f (fRw steps)),(2,.f (fR defs)),(7,.sl 0 0 x.2.1.length),(8,D.int x.2.2.1),(9,D.int x.2.2.2),(10,D.int x.1)],[rEv x.2.1],[]⟩)
      (fun x=>x.1 ≤ 30 ∧ BrOk x.2.1 ∧ (0 ≤ x.2.2.1 ∧ x.2.2.1 ≤ 1099511627776) ∧ (0 ≤ x.2.2.2 ∧ x.2.2.2 ≤ 1099511627776)) (fun x=>30 - x.1) (0,[],1,0) (by kernel_rfl) ⟨by omega,BrOk.nil,⟨by dsimp only;omega,by dsimp only;omega⟩,⟨by dsimp only;omega,by dsimp only;omega⟩⟩ ?_
    clear hl0 hlast hll hbr
    rintro ⟨i,out,v,now⟩ ⟨hi,ho,hv,hnw⟩
    dsimp only at hi ho hv hnw
    have hol:=ho.len
    have hpc:=pick_in (x:=(gt steps i).c) (n:=5) (by omega)
    repeat' (first|(with_reducible first|refine Wx.h ?_|refine Wb.h fun K hK=>?_|(refine hK _ ?_;clear hK K)|(refine wT ?_ ?_;· assumption)|(refine wF ?_ ?_;· assumption))|((with_reducible refine kQ ?_ ?_);kernel_rfl)|((with_reducible refine k1 ?_ ?_);rfl)|((with_reducible refine k0 ?_ ?_);rfl)|((with_reducible apply kB)<;>first|rfl|intro h)|((with_reducible refine kM ?_ ?_);rfl)|(with_reducible refine Wq.h ?_ ?_)<;>intro h<;>try (exfalso;omega)|(with_reducible refine Wu.h ?_ ?_)<;>intro h<;>try simp only [h]|((fail_if_success with_reducible refine Wz.h ?_);first|simp (disch:=omega) only [↓LD,LA,loadA_rf,seval,slcS_fRw,idxS_fRw,len_fRw,load_fRw,Rw.cs,-loadA_rf,rEv,List.map_cons,List.map_nil]|((with_reducible refine And.intro ?_ ?_);omega)|simp only [D.int,D.bool]))
    · refine callW_emb (c_hand_Version v _ hv.1 (by omega)) [] (by kernel_rfl) rfl rfl ?_
      rintro _ _ ⟨⟨v1,rfl,hv1,hv2,hv3⟩,rfl⟩
      simp (disch:=omega) only [↓LD,LA,loadA_rf,seval,ren,List.getElem?_nil]
      repeat' (first|(with_reducible first|refine Wx.h ?_|refine Wb.h fun K hK=>?_|(refine hK _ ?_;clear hK K)|(refine wT ?_ ?_;· assumption)|(refine wF ?_ ?_;· assumption))|((with_reducible refine kQ ?_ ?_);kernel_rfl)|((with_reducible refine k1 ?_ ?_);rfl)|((with_reducible refine k0 ?_ ?_);rfl)|((with_reducible apply kB)<;>first|rfl|intro h)|((with_reducible refine kM ?_ ?_);rfl)|(with_reducible refine Wq.h ?_ ?_)<;>intro h<;>try (exfalso;omega)|(with_reducible refine Wu.h ?_ ?_)<;>intro h<;>try simp only [h]|((fail_if_success with_reducible refine Wz.h ?_);first|simp (disch:=omega) only [↓LD,LA,loadA_rf,seval,rEv]|((with_reducible refine And.intro ?_ ?_);omega)|simp only [D.int,D.bool]))
      refine callW_emb (c_pen_NewL out v1 (now + pick (gt steps i).c 5) (by omega) ho.fit) [0] (by kernel_rfl) rfl rfl ?_
      rintro _ _ ⟨hq1,hq2⟩
      by_cases hn : newE out v1 (now + pick (gt steps i).c 5) = 0
      · obtain ⟨rfl,rfl⟩:=hq2 hn
        obtain ⟨a1,a2,a3,a4⟩:=newE_ok hn
        have a5:=verB_in a1
        simp (disch:=omega) only [↓LD,LA,loadA_rf,seval,ren,List.getElem?_nil,rEv,pnB,pnD]
        repeat' (first|(with_reducible first|refine Wx.h ?_|refine Wb.h fun K hK=>?_|(refine hK _ ?_;clear hK K)|(refine wT ?_ ?_;· assumption)|(refine wF ?_ ?_;· assumption))|((with_reducible refine kQ ?_ ?_);kernel_rfl)|((with_reducible refine k1 ?_ ?_);rfl)|((with_reducible refine k0 ?_ ?_);rfl)|((with_reducible apply kB)<;>first|rfl|intro h)|((with_reducible refine kM ?_ ?_);rfl)|(with_reducible refine Wq.h ?_ ?_)<;>intro h<;>try (exfalso;omega)|(with_reducible refine Wu.h ?_ ?_)<;>intro h<;>try simp only [h]|((fail_if_success with_reducible refine Wz.h ?_);first|simp (disch:=omega) only [↓LD,LA,loadA_rf,seval,rEv,pnB,pnD]|((with_reducible refine And.intro ?_ ?_);omega)|simp only [D.int,D.bool]))
        refine callW_emb (c_play_step (foldR s0 out).2 ⟨(foldR s0 out).2,v1,now + pick (gt steps i).c 5,[]⟩ (gt steps i) defs (ho.pen _ _)) [2] (by kernel_rfl) rfl rfl ?_
        rintro _ _ ⟨rfl,p',rfl,hp'⟩
        have hpl:=hp'.ok.len
        have hap:=ho.app hp'
        simp (disch:=omega) only [↓LD,LA,loadA_rf,seval,ren,List.getElem?_nil,rEv,pnB,pnD]
        repeat' (first|(with_reducible first|refine Wx.h ?_|refine Wb.h fun K hK=>?_|(refine hK _ ?_;clear hK K)|(refine wT ?_ ?_;· assumption)|(refine wF ?_ ?_;· assumption))|((with_reducible refine kQ ?_ ?_);kernel_rfl)|((with_reducible refine k1 ?_ ?_);rfl)|((with_reducible refine k0 ?_ ?_);rfl)|((with_reducible apply kB)<;>first|rfl|intro h)|((with_reducible refine kM ?_ ?_);rfl)|(with_reducible refine Wq.h ?_ ?_)<;>intro h<;>try (exfalso;omega)|(with_reducible refine Wu.h ?_ ?_)<;>intro h<;>try simp only [h]|((fail_if_success with_reducible refine Wz.h ?_);first|simp (disch:=omega) only [↓LD,LA,loadA_rf,seval,rEv,LEv,len_fEv]|((with_reducible refine And.intro ?_ ?_);omega)|simp only [D.int,D.bool]))
        · exact Next.mk (i + 1,out,v1,now + pick (gt steps i).c 5) (by kernel_rfl) ⟨by dsimp only;omega,ho,⟨by dsimp only;omega,by dsimp only;omega⟩,⟨by dsimp only;omega,by dsimp only;omega⟩⟩ (by dsimp only;omega)
        · rw [← List.flatMap_append,← List.length_append]
          exact Next.mk (i + 1,out ++ p'.out,v1,now + pick (gt steps i).c 5) (by kernel_rfl) ⟨by dsimp only;omega,hap,⟨by dsimp only;omega,by dsimp only;omega⟩,⟨by dsimp only;omega,by dsimp only;omega⟩⟩ (by dsimp only;omega)
      · obtain ⟨rfl,rfl⟩:=hq1 hn
        simp (disch:=omega) only [↓LD,LA,loadA_rf,seval,ren,List.getElem?_nil,rEv]
        repeat' (first|(with_reducible first|refine Wx.h ?_|refine Wb.h fun K hK=>?_|(refine hK _ ?_;clear hK K)|(refine wT ?_ ?_;· assumption)|(refine wF ?_ ?_;· assumption))|((with_reducible refine kQ ?_ ?_);kernel_rfl)|((with_reducible refine k1 ?_ ?_);rfl)|((with_reducible refine k0 ?_ ?_);rfl)|((with_reducible apply kB)<;>first|rfl|intro h)|((with_reducible refine kM ?_ ?_);rfl)|(with_reducible refine Wq.h ?_ ?_)<;>intro h<;>try (exfalso;omega)|(with_reducible refine Wu.h ?_ ?_)<;>intro h<;>try simp only [h]|((fail_if_success with_reducible refine Wz.h ?_);first|simp (disch:=omega) only [↓LD,LA,loadA_rf,seval,rEv]|((with_reducible refine And.intro ?_ ?_);omega)|simp only [D.int,D.bool]))
        exact end1 rfl rfl (by kernel_rfl) (.sl (T:=38) (xs:=out.flatMap Ev.cs) rfl (fun e=>by rw [List.eq_nil_of_length_eq_zero e];rfl)) (hQ out ho)
    · exact end1 rfl rfl (by kernel_rfl) (.sl (T:=38) (xs:=out.flatMap Ev.cs) rfl (fun e=>by rw [List.eq_nil_of_length_eq_zero e];rfl)) (hQ out ho)
    · exact end1 rfl rfl (by kernel_rfl) (.sl (T:=38) (xs:=out.flatMap Ev.cs) rfl (fun e=>by rw [List.eq_nil_of_length_eq_zero e];rfl)) (hQ out ho)
    · exact end1 rfl rfl (by kernel_rfl) (.sl (T:=38) (xs:=out.flatMap Ev.cs) rfl (fun e=>by rw [List.eq_nil_of_length_eq_zero e];rfl)) (hQ out ho)
  · repeat' (first|(with_reducible first|refine Wx.h ?_|refine Wb.h fun K hK=>?_|(refine hK _ ?_;clear hK K)|(refine wT ?_ ?_;· assumption)|(refine wF ?_ ?_;· assumption))|((with_reducible refine kQ ?_ ?_);kernel_rfl)|((with_reducible refine k1 ?_ ?_);rfl)|((with_reducible refine k0 ?_ ?_);rfl)|((with_reducible apply kB)<;>first|rfl|intro h)|((with_reducible refine kM ?_ ?_);rfl)|(with_reducible refine Wq.h ?_ ?_)<;>intro h<;>try (exfalso;omega)|(with_reducible refine Wu.h ?_ ?_)<;>intro h<;>try simp only [h]|((fail_if_success with_reducible refine Wz.h ?_);first|simp (disch:=omega) only [↓LD,LA,loadA_rf,seval,LEv,at1_fEv,at2_fEv,len_fEv,Ev.cs]|((with_reducible refine And.intro ?_ ?_);omega)|simp only [D.int,D.bool]))
    refine HS.loopG [1,2,7,8,9,10] (fun x : Nat × List Ev × Int × Int=>⟨frm 88 [(1,.f (fRw steps)),(2,.f (fR defs)),(7,.sl 0 0 x.2.1.length),(8,D.int x.2.2.1),(9,D.int x.2.2.2),(10,D.int x.1)],[rEv x.2.1],[]⟩)
      (fun x=>x.1 ≤ 30 ∧ BrOk x.2.1 ∧ (0 ≤ x.2.2.1 ∧ x.2.2.1 ≤ 1099511627776) ∧ (0 ≤ x.2.2.2 ∧ x.2.2.2 ≤ 1099511627776)) (fun x=>30 - x.1) (0,l,(gt l ((l.length : Int) - 1).toNat).ver,(gt l ((l.length : Int) - 1).toNat).time) (by kernel_rfl) ⟨by omega,hbr,⟨by dsimp only;omega,by dsimp only;omega⟩,⟨by dsimp only;omega,by dsimp only;omega⟩⟩ ?_
    clear hl0 hlast hll hbr
    rintro ⟨i,out,v,now⟩ ⟨hi,ho,hv,hnw⟩
    dsimp only at hi ho hv hnw
    have hol:=ho.len
    have hpc:=pick_in (x:=(gt steps i).c) (n:=5) (by omega)
    repeat' (first|(with_reducible first|refine Wx.h ?_|refine Wb.h fun K hK=>?_|(refine hK _ ?_;clear hK K)|(refine wT ?_ ?_;· assumption)|(refine wF ?_ ?_;· assumption))|((with_reducible refine kQ ?_ ?_);kernel_rfl)|((with_reducible refine k1 ?_ ?_);rfl)|((with_reducible refine k0 ?_ ?_);rfl)|((with_reducible apply kB)<;>first|rfl|intro h)|((with_reducible refine kM ?_ ?_);rfl)|(with_reducible refine Wq.h ?_ ?_)<;>intro h<;>try (exfalso;omega)|(with_reducible refine Wu.h ?_ ?_)<;>intro h<;>try simp only [h]|((fail_if_success with_reducible refine Wz.h ?_);first|simp (disch:=omega) only [↓LD,LA,loadA_rf,seval,slcS_fRw,idxS_fRw,len_fRw,load_fRw,Rw.cs,-loadA_rf,rEv,List.map_cons,List.map_nil]|((with_reducible refine And.intro ?_ ?_);omega)|simp only [D.int,D.bool]))
    · refine callW_emb (c_hand_Version v _ hv.1 (by omega)) [] (by kernel_rfl) rfl rfl ?_
      rintro _ _ ⟨⟨v1,rfl,hv1,hv2,hv3⟩,rfl⟩
      simp (disch:=omega) only [↓LD,LA,loadA_rf,seval,ren,List.getElem?_nil]
      repeat' (first|(with_reducible first|refine Wx.h ?_|refine Wb.h fun K hK=>?_|(refine hK _ ?_;clear hK K)|(refine wT ?_ ?_;· assumption)|(refine wF ?_ ?_;· assumption))|((with_reducible refine kQ ?_ ?_);kernel_rfl)|((with_reducible refine k1 ?_ ?_);rfl)|((with_reducible refine k0 ?_ ?_);rfl)|((with_reducible apply kB)<;>first|rfl|intro h)|((with_reducible refine kM ?_ ?_);rfl)|(with_reducible refine Wq.h ?_ ?_)<;>intro h<;>try (exfalso;omega)|(with_reducible refine Wu.h ?_ ?_)<;>intro h<;>try simp only [h]|((fail_if_success with_reducible refine Wz.h ?_);first|simp (disch:=omega) only [↓LD,LA,loadA_rf,seval,rEv]|((with_reducible refine And.intro ?_ ?_);omega)|simp only [D.int,D.bool]))
      refine callW_emb (c_pen_NewL out v1 (now + pick (gt steps i).c 5) (by omega) ho.fit) [0] (by kernel_rfl) rfl rfl ?_
      rintro _ _ ⟨hq1,hq2⟩
      by_cases hn : newE out v1 (now + pick (gt steps i).c 5) = 0
      · obtain ⟨rfl,rfl⟩:=hq2 hn
        obtain ⟨a1,a2,a3,a4⟩:=newE_ok hn
        have a5:=verB_in a1
        simp (disch:=omega) only [↓LD,LA,loadA_rf,seval,ren,List.getElem?_nil,rEv,pnB,pnD]
        repeat' (first|(with_reducible first|refine Wx.h ?_|refine Wb.h fun K hK=>?_|(refine hK _ ?_;clear hK K)|(refine wT ?_ ?_;· assumption)|(refine wF ?_ ?_;· assumption))|((with_reducible refine kQ ?_ ?_);kernel_rfl)|((with_reducible refine k1 ?_ ?_);rfl)|((with_reducible refine k0 ?_ ?_);rfl)|((with_reducible apply kB)<;>first|rfl|intro h)|((with_reducible refine kM ?_ ?_);rfl)|(with_reducible refine Wq.h ?_ ?_)<;>intro h<;>try (exfalso;omega)|(with_reducible refine Wu.h ?_ ?_)<;>intro h<;>try simp only [h]|((fail_if_success with_reducible refine Wz.h ?_);first|simp (disch:=omega) only [↓LD,LA,loadA_rf,seval,rEv,pnB,pnD]|((with_reducible refine And.intro ?_ ?_);omega)|simp only [D.int,D.bool]))
        refine callW_emb (c_play_step (foldR s0 out).2 ⟨(foldR s0 out).2,v1,now + pick (gt steps i).c 5,[]⟩ (gt steps i) defs (ho.pen _ _)) [2] (by kernel_rfl) rfl rfl ?_
        rintro _ _ ⟨rfl,p',rfl,hp'⟩
        have hpl:=hp'.ok.len
        have hap:=ho.app hp'
        simp (disch:=omega) only [↓LD,LA,loadA_rf,seval,ren,List.getElem?_nil,rEv,pnB,pnD]
        repeat' (first|(with_reducible first|refine Wx.h ?_|refine Wb.h fun K hK=>?_|(refine hK _ ?_;clear hK K)|(refine wT ?_ ?_;· assumption)|(refine wF ?_ ?_;· assumption))|((with_reducible refine kQ ?_ ?_);kernel_rfl)|((with_reducible refine k1 ?_ ?_);rfl)|((with_reducible refine k0 ?_ ?_);rfl)|((with_reducible apply kB)<;>first|rfl|intro h)|((with_reducible refine kM ?_ ?_);rfl)|(with_reducible refine Wq.h ?_ ?_)<;>intro h<;>try (exfalso;omega)|(with_reducible refine Wu.h ?_ ?_)<;>intro h<;>try simp only [h]|((fail_if_success with_reducible refine Wz.h ?_);first|simp (disch:=omega) only [↓LD,LA,loadA_rf,seval,rEv,LEv,len_fEv]|((with_reducible refine And.intro ?_ ?_);omega)|simp only [D.int,D.bool]))
        · exact Next.mk (i + 1,out,v1,now + pick (gt steps i).c 5) (by kernel_rfl) ⟨by dsimp only;omega,ho,⟨by dsimp only;omega,by dsimp only;omega⟩,⟨by dsimp only;omega,by dsimp only;omega⟩⟩ (by dsimp only;omega)
        · rw [← List.flatMap_append,← List.length_append]
          exact Next.mk (i + 1,out ++ p'.out,v1,now + pick (gt steps i).c 5) (by kernel_rfl) ⟨by dsimp only;omega,hap,⟨by dsimp only;omega,by dsimp only;omega⟩,⟨by dsimp only;omega,by dsimp only;omega⟩⟩ (by dsimp only;omega)
      · obtain ⟨rfl,rfl⟩:=hq1 hn
        simp (disch:=omega) only [↓LD,LA,loadA_rf,seval,ren,List.getElem?_nil,rEv]
        repeat' (first|(with_reducible first|refine Wx.h ?_|refine Wb.h fun K hK=>?_|(refine hK _ ?_;clear hK K)|(refine wT ?_ ?_;· assumption)|(refine wF ?_ ?_;· assumption))|((with_reducible refine kQ ?_ ?_);kernel_rfl)|((with_reducible refine k1 ?_ ?_);rfl)|((with_reducible refine k0 ?_ ?_);rfl)|((with_reducible apply kB)<;>first|rfl|intro h)|((with_reducible refine kM ?_ ?_);rfl)|(with_reducible refine Wq.h ?_ ?_)<;>intro h<;>try (exfalso;omega)|(with_reducible refine Wu.h ?_ ?_)<;>intro h<;>try simp only [h]|((fail_if_success with_reducible refine Wz.h ?_);first|simp (disch:=omega) only [↓LD,LA,loadA_rf,seval,rEv]|((with_reducible refine And.intro ?_ ?_);omega)|simp only [D.int,D.bool]))
        exact end1 rfl rfl (by kernel_rfl) (.sl (T:=38) (xs:=out.flatMap Ev.cs) rfl (fun e=>by rw [List.eq_nil_of_length_eq_zero e];rfl)) (hQ out ho)
    · exact end1 rfl rfl (by kernel_rfl) (.sl (T:=38) (xs:=out.flatMap Ev.cs) rfl (fun e=>by rw [List.eq_nil_of_length_eq_zero e];rfl)) (hQ out ho)
    · exact end1 rfl rfl (by kernel_rfl) (.sl (T:=38) (xs:=out.flatMap Ev.cs) rfl (fun e=>by rw [List.eq_nil_of_length_eq_zero e];rfl)) (hQ out ho)
    · exact end1 rfl rfl (by kernel_rfl) (.sl (T:=38) (xs:=out.flatMap Ev.cs) rfl (fun e=>by rw [List.eq_nil_of_length_eq_zero e];rfl)) (hQ out ho)
theorem c_play_Branch (steps : List Rw) (defs : List Rd) : Con Tryd.prog 5 [.f (fRw steps),.f (fR defs)] [] fun r H'=>∃ out,r = .f (fEv out) ∧ BrOk out ∧ H' = []:=by
  refine Con.walk good fn_play_Branch (by simp) ?_
  unfold s_play_Branch
  simp only [argsE]
  repeat' (first|(with_reducible first|refine Wx.h ?_|refine Wb.h fun K hK=>?_|(refine hK _ ?_;clear hK K)|(refine wT ?_ ?_;· assumption)|(refine wF ?_ ?_;· assumption))|((with_reducible refine kQ ?_ ?_);kernel_rfl)|((with_reducible refine k1 ?_ ?_);rfl)|((with_reducible refine k0 ?_ ?_);rfl)|((with_reducible apply kB)<;>first|rfl|intro h)|((with_reducible refine kM ?_ ?_);rfl)|(with_reducible refine Wq.h ?_ ?_)<;>intro h<;>try (exfalso;omega)|(with_reducible refine Wu.h ?_ ?_)<;>intro h<;>try simp only [h]|((fail_if_success with_reducible refine Wz.h ?_);first|simp (disch:=omega) only [↓LD,LA,loadA_rf,seval]|((with_reducible refine And.intro ?_ ?_);omega)|simp only [D.int,D.bool]))
  refine callW_less (args0:=[.f (fEv []),.f (fRw steps),.f (fR defs)]) ?_ (.cons (.f .ns) (.cons .refl (.cons .refl .nil)))
  refine callW_emb (c_play_More [] BrOk.nil steps defs) [] (by kernel_rfl) rfl rfl ?_
  rintro _ _ ⟨out,rfl,ho,rfl⟩
  simp (disch:=omega) only [↓LD,LA,loadA_rf,seval,ren,List.getElem?_nil]
  repeat' (first|(with_reducible first|refine Wx.h ?_|refine Wb.h fun K hK=>?_|(refine hK _ ?_;clear hK K)|(refine wT ?_ ?_;· assumption)|(refine wF ?_ ?_;· assumption))|((with_reducible refine kQ ?_ ?_);kernel_rfl)|((with_reducible refine k1 ?_ ?_);rfl)|((with_reducible refine k0 ?_ ?_);rfl)|((with_reducible apply kB)<;>first|rfl|intro h)|((with_reducible refine kM ?_ ?_);rfl)|(with_reducible refine Wq.h ?_ ?_)<;>intro h<;>try (exfalso;omega)|(with_reducible refine Wu.h ?_ ?_)<;>intro h<;>try simp only [h]|((fail_if_success with_reducible refine Wz.h ?_);first|simp (disch:=omega) only [↓LD,LA,loadA_rf,seval]|((with_reducible refine And.intro ?_ ?_);omega)|simp only [D.int,D.bool]))
  exact end1 rfl rfl (by kernel_rfl) .f ⟨out,rfl,ho,rfl⟩
end Go.Proofs.YtgbbpelfpagdoaaDoor.Mir
namespace Go.Proofs.YtgbbpelfpagdoaaDoor.Mir
open Go Go.RowKit
set_option maxHeartbeats 4000000
set_option maxRecDepth 100000 in
theorem c_st_Fold (l : List Ev) (hl : l.length ≤ 1000000) (hf : ∀ e ∈ l,FitV e) : Con Tryd.prog 6 [.f (fEv l)] [] fun r H'=>r = .tp [stD (foldR s0 l).2,D.int (foldR s0 l).1] ∧ H' = []:=by
  refine Con.walk good fn_st_Fold (by simp) ?_
  unfold s_st_Fold
  simp only [argsE]
  repeat' (first|(with_reducible first|refine Wx.h ?_|refine Wb.h fun K hK=>?_|(refine hK _ ?_;clear hK K)|(refine wT ?_ ?_;· assumption)|(refine wF ?_ ?_;· assumption))|((with_reducible refine kQ ?_ ?_);kernel_rfl)|((with_reducible refine k1 ?_ ?_);rfl)|((with_reducible refine k0 ?_ ?_);rfl)|((with_reducible apply kB)<;>first|rfl|intro h)|((with_reducible refine kM ?_ ?_);rfl)|(with_reducible refine Wq.h ?_ ?_)<;>intro h<;>try (exfalso;omega)|(with_reducible refine Wu.h ?_ ?_)<;>intro h<;>try simp only [h]|((fail_if_success with_reducible refine Wz.h ?_);first|simp (disch:=omega) only [↓LD,LA,loadA_rf,seval,LEv]|((with_reducible refine And.intro ?_ ?_);omega)|simp only [D.int,D.bool]))
  refine HS.view (View.bcell 1 5 (.f (.s [] 0)) rfl rfl .ns) ?_
  refine HS.view (View.void 48) ?_
  refine HS.view (View.void 77) ?_
  refine HS.view (View.void 40) ?_
  refine HS.view (View.bcell 1 6 (.sl 2 0 0) rfl rfl (.no (by show 2 < 5;omega))) ?_
  refine HS.view (View.bcell 1 7 (.sl 3 0 0) rfl rfl (.no (by show 3 < 5;omega))) ?_
  refine HS.view (View.bcell 1 8 (.sl 4 0 0) rfl rfl (.no (by show 4 < 5;omega))) ?_
  refine HS.loopG [2,4,9,10,11] (fun x : Nat × S12=>⟨frm 23 [(2,.pt 0 0),(4,.pt 1 0),(9,.f (fEv l)),(10,D.int l.length),(11,D.int x.1)],[.box 31 [jI,jI,jI,jI,jF,jN,jN,jN,jN],.box 31 (stL 2 3 4 x.2),rN x.2.nodes,rT x.2.tms,rS x.2.sgs],[]⟩)
    (fun x=>x.1 ≤ l.length ∧ Ok12 x.2 ∧ foldR s0 l = foldR x.2 (l.drop x.1)) (fun x=>l.length - x.1) (0,s0) (by kernel_rfl) ⟨Nat.zero_le _,ok12_0,rfl⟩ ?_
  rintro ⟨i,s⟩ ⟨hi,ho,hF⟩
  dsimp only at hi ho hF
  by_cases hil : i < l.length
  · rw [drop_gt hil,foldR] at hF
    have hv:=hf _ (gt_mem hil)
    have he:=applyL_eq (e:=gt l i) ho
    unfold applyL at he
    obtain ⟨hA,_,_⟩:=ho.fitA
    have hid:=ho.id
    have ho2:=ok12_apply (e:=gt l i) ho hv.2.2.2
    repeat' (first|(with_reducible first|refine Wx.h ?_|refine Wb.h fun K hK=>?_|(refine hK _ ?_;clear hK K)|(refine wT ?_ ?_;· assumption)|(refine wF ?_ ?_;· assumption))|((with_reducible refine kQ ?_ ?_);kernel_rfl)|((with_reducible refine k1 ?_ ?_);rfl)|((with_reducible refine k0 ?_ ?_);rfl)|((with_reducible apply kB)<;>first|rfl|intro h)|((with_reducible refine kM ?_ ?_);rfl)|(with_reducible refine Wq.h ?_ ?_)<;>intro h<;>try (exfalso;omega)|(with_reducible refine Wu.h ?_ ?_)<;>intro h<;>try simp only [h]|((fail_if_success with_reducible refine Wz.h ?_);first|simp (disch:=omega) only [↓LD,LA,loadA_rf,seval,LEv,load_fEv,len_fEv,Ev.cs,stL,rN,rT,rS,-loadA_rf,List.map_cons,List.map_nil]|((with_reducible refine And.intro ?_ ?_);omega)|simp only [D.int,D.bool]))
    refine callW_emb (c_st_apply s (gt l i) hA hv.1 hv.2.2 ⟨hid.1,by omega⟩) [1,2,3,4] (by kernel_rfl) rfl rfl ?_
    rintro _ _ ⟨rfl,m,rfl⟩
    generalize applyT s (gt l i) = p at he ⊢
    obtain ⟨v,s'⟩:=p
    dsimp only at he ⊢
    rcases m with _|_|_|m
    · simp (disch:=omega) only [↓LD,LA,loadA_rf,seval,ren,List.getElem?_nil,stM,stH,stL,rN,rT,rS]
      repeat' (first|(with_reducible first|refine Wx.h ?_|refine Wb.h fun K hK=>?_|(refine hK _ ?_;clear hK K)|(refine wT ?_ ?_;· assumption)|(refine wF ?_ ?_;· assumption))|((with_reducible refine kQ ?_ ?_);kernel_rfl)|((with_reducible refine k1 ?_ ?_);rfl)|((with_reducible refine k0 ?_ ?_);rfl)|((with_reducible apply kB)<;>first|rfl|intro h)|((with_reducible refine kM ?_ ?_);rfl)|(with_reducible refine Wq.h ?_ ?_)<;>intro h<;>try (exfalso;omega)|(with_reducible refine Wu.h ?_ ?_)<;>intro h<;>try simp only [h]|((fail_if_success with_reducible refine Wz.h ?_);first|simp (disch:=omega) only [↓LD,LA,loadA_rf,seval]|((with_reducible refine And.intro ?_ ?_);omega)|simp only [D.int,D.bool]))
      · have hv0 : v = 0:=by assumption
        rw [if_pos hv0] at he
        rw [← he] at hF ho2
        rw [if_pos rfl] at hF
        exact Next.mk (i + 1,s') (by kernel_rfl) ⟨by dsimp only;omega,ho2 rfl,hF⟩ (by dsimp only;omega)
      · have hv0 : ¬ v = 0:=by assumption
        rw [if_neg hv0] at he
        rw [← he,if_neg hv0] at hF
        rw [hF]
        exact RetS.still (ds:=[.ag [jI,jI,jI,jI,jF,jN,jN,jN,jN],D.int v]) (by kernel_rfl) (by kernel_rfl) (.tps (.cons (.ags (.cons .f (.cons .f (.cons .f (.cons .f (.cons .f (.cons .nil (.cons .nil (.cons .nil (.cons .nil .nil)))))))))) (.cons .f .nil))) ⟨rfl,rfl⟩
    · simp (disch:=omega) only [↓LD,LA,loadA_rf,seval,ren,List.getElem?_nil,stM,stH,stL,rN,rT,rS]
      repeat' (first|(with_reducible first|refine Wx.h ?_|refine Wb.h fun K hK=>?_|(refine hK _ ?_;clear hK K)|(refine wT ?_ ?_;· assumption)|(refine wF ?_ ?_;· assumption))|((with_reducible refine kQ ?_ ?_);kernel_rfl)|((with_reducible refine k1 ?_ ?_);rfl)|((with_reducible refine k0 ?_ ?_);rfl)|((with_reducible apply kB)<;>first|rfl|intro h)|((with_reducible refine kM ?_ ?_);rfl)|(with_reducible refine Wq.h ?_ ?_)<;>intro h<;>try (exfalso;omega)|(with_reducible refine Wu.h ?_ ?_)<;>intro h<;>try simp only [h]|((fail_if_success with_reducible refine Wz.h ?_);first|simp (disch:=omega) only [↓LD,LA,loadA_rf,seval]|((with_reducible refine And.intro ?_ ?_);omega)|simp only [D.int,D.bool]))
      · have hv0 : v = 0:=by assumption
        rw [if_pos hv0] at he
        rw [← he] at hF ho2
        rw [if_pos rfl] at hF
        exact Next.mk (i + 1,s') (by kernel_rfl) ⟨by dsimp only;omega,ho2 rfl,hF⟩ (by dsimp only;omega)
      · have hv0 : ¬ v = 0:=by assumption
        rw [if_neg hv0] at he
        rw [← he,if_neg hv0] at hF
        rw [hF]
        exact RetS.still (ds:=[.ag [jI,jI,jI,jI,jF,jN,jN,jN,jN],D.int v]) (by kernel_rfl) (by kernel_rfl) (.tps (.cons (.ags (.cons .f (.cons .f (.cons .f (.cons .f (.cons .f (.cons .nil (.cons .nil (.cons .nil (.cons .nil .nil)))))))))) (.cons .f .nil))) ⟨rfl,rfl⟩
    · simp (disch:=omega) only [↓LD,LA,loadA_rf,seval,ren,List.getElem?_nil,stM,stH,stL,rN,rT,rS]
      repeat' (first|(with_reducible first|refine Wx.h ?_|refine Wb.h fun K hK=>?_|(refine hK _ ?_;clear hK K)|(refine wT ?_ ?_;· assumption)|(refine wF ?_ ?_;· assumption))|((with_reducible refine kQ ?_ ?_);kernel_rfl)|((with_reducible refine k1 ?_ ?_);rfl)|((with_reducible refine k0 ?_ ?_);rfl)|((with_reducible apply kB)<;>first|rfl|intro h)|((with_reducible refine kM ?_ ?_);rfl)|(with_reducible refine Wq.h ?_ ?_)<;>intro h<;>try (exfalso;omega)|(with_reducible refine Wu.h ?_ ?_)<;>intro h<;>try simp only [h]|((fail_if_success with_reducible refine Wz.h ?_);first|simp (disch:=omega) only [↓LD,LA,loadA_rf,seval]|((with_reducible refine And.intro ?_ ?_);omega)|simp only [D.int,D.bool]))
      · have hv0 : v = 0:=by assumption
        rw [if_pos hv0] at he
        rw [← he] at hF ho2
        rw [if_pos rfl] at hF
        exact Next.mk (i + 1,s') (by kernel_rfl) ⟨by dsimp only;omega,ho2 rfl,hF⟩ (by dsimp only;omega)
      · have hv0 : ¬ v = 0:=by assumption
        rw [if_neg hv0] at he
        rw [← he,if_neg hv0] at hF
        rw [hF]
        exact RetS.still (ds:=[.ag [jI,jI,jI,jI,jF,jN,jN,jN,jN],D.int v]) (by kernel_rfl) (by kernel_rfl) (.tps (.cons (.ags (.cons .f (.cons .f (.cons .f (.cons .f (.cons .f (.cons .nil (.cons .nil (.cons .nil (.cons .nil .nil)))))))))) (.cons .f .nil))) ⟨rfl,rfl⟩
    · simp (disch:=omega) only [↓LD,LA,loadA_rf,seval,ren,List.getElem?_nil,stM,stH,stL,rN,rT,rS]
      repeat' (first|(with_reducible first|refine Wx.h ?_|refine Wb.h fun K hK=>?_|(refine hK _ ?_;clear hK K)|(refine wT ?_ ?_;· assumption)|(refine wF ?_ ?_;· assumption))|((with_reducible refine kQ ?_ ?_);kernel_rfl)|((with_reducible refine k1 ?_ ?_);rfl)|((with_reducible refine k0 ?_ ?_);rfl)|((with_reducible apply kB)<;>first|rfl|intro h)|((with_reducible refine kM ?_ ?_);rfl)|(with_reducible refine Wq.h ?_ ?_)<;>intro h<;>try (exfalso;omega)|(with_reducible refine Wu.h ?_ ?_)<;>intro h<;>try simp only [h]|((fail_if_success with_reducible refine Wz.h ?_);first|simp (disch:=omega) only [↓LD,LA,loadA_rf,seval]|((with_reducible refine And.intro ?_ ?_);omega)|simp only [D.int,D.bool]))
      · have hv0 : v = 0:=by assumption
        rw [if_pos hv0] at he
        rw [← he] at hF ho2
        rw [if_pos rfl] at hF
        exact Next.mk (i + 1,s') (by kernel_rfl) ⟨by dsimp only;omega,ho2 rfl,hF⟩ (by dsimp only;omega)
      · have hv0 : ¬ v = 0:=by assumption
        rw [if_neg hv0] at he
        rw [← he,if_neg hv0] at hF
        rw [hF]
        exact RetS.still (ds:=[.ag [jI,jI,jI,jI,jF,jN,jN,jN,jN],D.int v]) (by kernel_rfl) (by kernel_rfl) (.tps (.cons (.ags (.cons .f (.cons .f (.cons .f (.cons .f (.cons .f (.cons .nil (.cons .nil (.cons .nil (.cons .nil .nil)))))))))) (.cons .f .nil))) ⟨rfl,rfl⟩
  · repeat' (first|(with_reducible first|refine Wx.h ?_|refine Wb.h fun K hK=>?_|(refine hK _ ?_;clear hK K)|(refine wT ?_ ?_;· assumption)|(refine wF ?_ ?_;· assumption))|((with_reducible refine kQ ?_ ?_);kernel_rfl)|((with_reducible refine k1 ?_ ?_);rfl)|((with_reducible refine k0 ?_ ?_);rfl)|((with_reducible apply kB)<;>first|rfl|intro h)|((with_reducible refine kM ?_ ?_);rfl)|(with_reducible refine Wq.h ?_ ?_)<;>intro h<;>try (exfalso;omega)|(with_reducible refine Wu.h ?_ ?_)<;>intro h<;>try simp only [h]|((fail_if_success with_reducible refine Wz.h ?_);first|simp (disch:=omega) only [↓LD,LA,loadA_rf,seval,LEv,stL,rN,rT,rS]|((with_reducible refine And.intro ?_ ?_);omega)|simp only [D.int,D.bool]))
    rw [List.drop_of_length_le (by omega),foldR] at hF
    rw [hF]
    exact RetS.still (ds:=[.ag (stL 2 3 4 s),D.int 0]) (by kernel_rfl) (by kernel_rfl) (.tps (.cons (vws_stL rfl rfl rfl) (.cons .f .nil))) ⟨rfl,rfl⟩
end Go.Proofs.YtgbbpelfpagdoaaDoor.Mir
namespace Go.Proofs.YtgbbpelfpagdoaaDoor.Mir
open Go Go.RowKit
def s_law_known : SCode :=
  (jq ([.a 0 (.mv kF)]) (jq ((ap [.a 4 (.bld [jN,jI,jI] [(1,1,(kI 1)),(2,1,(kI 5))]),.a 5 (.bsl 51 3 1 [jN,jI,jI] [(0,(.t 4))]),.a 6 (.bld
 [jI,jI,jI,jI,jI,jI,(.f (.v (.string ⟨#[]⟩))),jN,jN] [(0,1,(kI 1)),(1,1,(kI 1)),(3,1,(kI 1)),(8,1,(.t 5))]),.a 7 (.bld [jI,jI,jI,
 jI,jI,jI,(.f (.v (.string ⟨#[]⟩))),jN,jN] [(0,1,(kI 2)),(1,1,(kI 1)),(3,1,(kI 2)),(5,1,(kI 1))]),.a 8 (.bld [jI,jI,jI,jI,jI,jI,
 (.f (.v (.string ⟨#[]⟩))),jN,jN] [(0,1,(kI 3)),(1,1,(kI 1)),(3,1,(kI 3)),(5,1,(kI 1))]),.a 9 (.bsl 38 9 3 [jI,jI,jI,jI,jI,jI,(.f
 (.v (.string ⟨#[]⟩))),jN,jN,jI,jI,jI,jI,jI,jI,(.f (.v (.string ⟨#[]⟩))),jN,jN,jI,jI,jI,jI,jI,jI,(.f (.v (.string ⟨#[]⟩))),jN,jN]
 [(0,(.t 6)),(9,(.t 7)),(18,(.t 8))]),.a 10 (.call (kC 6) [(.t 9)])] [jm 3 10,jE 11 0 3,jE 12 1 3,.a 1 (.alloc 31 [jI,jI,jI,jI,jF,jN,jN,
 jN,jN]),.n (.store 9 (.t 1) (.t 11)),jm 2 12])) (jq ((ap [jm 13 2,jb 14 .eql 13 0] (ap [jm 15 14,jG 16 (.loadA 9 (.t 1)) 15 true] (ap [jG 17
 (.call (kC 13) [(.t 16)]) 15 true] (ap [jG 18 (.bin .eql (.t 17) (kI 9)) 15 true] (ap [.a 19 (.pick (.t 15) (.t 18) kF),jm 20 19,gO 21 6 1 20 true]
 (ap [gL 22 21 20 true,jG 23 (.slen (.t 22)) 20 true,jG 24 (.bin .eql (.t 23) (kI 1)) 20 true] (ap [.a 25 (.pick (.t 20) (.t 24) kF),jm 26 25,gO 27
 6 1 26 true] (ap [gL 28 27 26 true,jG 29 (.idx 4 (.t 28) (kI 0)) 26 true,gO 30 0 29 26 true,gL 31 30 26 true,jG 32 (.bin .eql (.t 31) (kI 2)) 26
 true] (ap [.a 33 (.pick (.t 26) (.t 32) kF),jm 34 33,gO 35 0 1 34 true] (ap [gL 36 35 34 true,jG 37 (.bin .eql (.t 36) (kI 3)) 34 true] [.a 38
 (.pick (.t 34) (.t 37) kF),jm 0 38]))))))))))) .ret)))
theorem fn_law_known : Fn Tryd.prog 7 39 [.t 0] s_law_known:=.of Tryd.func7 (by kernel_rfl)
end Go.Proofs.YtgbbpelfpagdoaaDoor.Mir
namespace Go.Proofs.YtgbbpelfpagdoaaDoor.Mir
open Go Go.RowKit
set_option maxHeartbeats 4000000
def knE : List Ev:=[⟨1,1,0,1,0,0,[],[],[⟨[],1,5⟩]⟩,⟨2,1,0,2,0,1,[],[],[]⟩,⟨3,1,0,3,0,1,[],[],[]⟩]
def knS : S12:=⟨3,1,0,0,false,[⟨[],1,5⟩],[⟨2,1,0,[]⟩],[],[]⟩
theorem knF : foldR s0 knE = (0,knS):=by kernel_rfl
set_option maxRecDepth 100000 in
theorem c_st_known : Con Tryd.prog 7 [] [] fun r H'=>r = D.bool true ∧ H' = []:=by
  refine Con.walk good fn_law_known (by simp) ?_
  unfold s_law_known
  simp only [argsE]
  repeat' (first|(with_reducible first|refine Wx.h ?_|refine Wb.h fun K hK=>?_|(refine hK _ ?_;clear hK K)|(refine wT ?_ ?_;· assumption)|(refine wF ?_ ?_;· assumption))|((with_reducible refine kQ ?_ ?_);kernel_rfl)|((with_reducible refine k1 ?_ ?_);rfl)|((with_reducible refine k0 ?_ ?_);rfl)|((with_reducible apply kB)<;>first|rfl|intro h)|((with_reducible refine kM ?_ ?_);rfl)|(with_reducible refine Wq.h ?_ ?_)<;>intro h<;>try (exfalso;omega)|(with_reducible refine Wu.h ?_ ?_)<;>intro h<;>try simp only [h]|((fail_if_success with_reducible refine Wz.h ?_);first|simp (disch:=omega) only [↓LD,LA,loadA_rf,seval]|((with_reducible refine And.intro ?_ ?_);omega)|simp only [D.int,D.bool]))
  refine bind'_of (a:=([iF 1,iF 1,iF 0,iF 1,iF 0,iF 0,.v (.string ⟨#[]⟩),.v (.slice none 0 0),.s [.v (.slice none 0 0),iF 1,iF 5] 1,iF 2,iF 1,iF 0,iF 2,iF 0,iF 1,.v (.string ⟨#[]⟩),.v (.slice none 0 0),.v (.slice none 0 0),iF 3,iF 1,iF 0,iF 3,iF 0,iF 1,.v (.string ⟨#[]⟩),.v (.slice none 0 0),.v (.slice none 0 0)],[(0,.froz 51 [.v (.slice none 0 0),iF 1,iF 5])])) (by kernel_rfl) ?_
  simp only [applyUpd,List.set_cons_zero,List.cons_append,List.nil_append]
  refine callW_lay [1] (args0:=[.f (.s [iF 1,iF 1,iF 0,iF 1,iF 0,iF 0,.v (.string ⟨#[]⟩),.v (.slice none 0 0),.s [.v (.slice none 0 0),iF 1,iF 5] 1,iF 2,iF 1,iF 0,iF 2,iF 0,iF 1,.v (.string ⟨#[]⟩),.v (.slice none 0 0),.v (.slice none 0 0),iF 3,iF 1,iF 0,iF 3,iF 0,iF 1,.v (.string ⟨#[]⟩),.v (.slice none 0 0),.v (.slice none 0 0)] 3)]) (.cons (.sl (T:=38) (xs:=[iF 1,iF 1,iF 0,iF 1,iF 0,iF 0,.v (.string ⟨#[]⟩),.v (.slice none 0 0),.s [.v (.slice none 0 0),iF 1,iF 5] 1,iF 2,iF 1,iF 0,iF 2,iF 0,iF 1,.v (.string ⟨#[]⟩),.v (.slice none 0 0),.v (.slice none 0 0),iF 3,iF 1,iF 0,iF 3,iF 0,iF 1,.v (.string ⟨#[]⟩),.v (.slice none 0 0),.v (.slice none 0 0)]) rfl (fun e=>by cases e)) .nil) ?_
  simp only [layV,List.foldr_cons,List.foldr_nil,List.set_cons_succ,List.set_cons_zero]
  refine callW_less (args0:=[.f (fEv knE)]) ?_ (.cons (.f (WF.ls ?_)) .nil)
  rotate_left
  · simp only [knE,Ev.cs,fG,fY,Nd.cs,fI,List.flatMap_cons,List.flatMap_nil,List.append_nil,List.map_nil,List.length_nil,List.length_cons,List.cons_append,List.nil_append,Nat.zero_add]
    repeat' (first|exact WDs.nil|refine WDs.cons ?_ ?_|exact WD.refl|exact WD.f .ns|exact WD.f .es|refine WD.ags ?_|refine WD.f (WF.ls ?_)|exact WFs.nil|refine WFs.cons ?_ ?_|exact WF.refl|exact WF.ns|exact WF.es)
    refine WF.ls ?_
    repeat' (first|exact WDs.nil|refine WDs.cons ?_ ?_|exact WD.refl|exact WD.f .ns|exact WD.f .es|refine WD.ags ?_|refine WD.f (WF.ls ?_)|exact WFs.nil|refine WFs.cons ?_ ?_|exact WF.refl|exact WF.ns|exact WF.es)
  refine callW_pure (c_st_Fold knE (by decide) (by intro e he;simp only [knE,List.mem_cons,List.not_mem_nil,or_false] at he;rcases he with rfl|rfl|rfl<;>exact ⟨by simp,by simp,⟨by simp,by simp⟩⟩)) rfl rfl rfl ?_
  rw [knF]
  repeat' (first|(with_reducible first|refine Wx.h ?_|refine Wb.h fun K hK=>?_|(refine hK _ ?_;clear hK K)|(refine wT ?_ ?_;· assumption)|(refine wF ?_ ?_;· assumption))|((with_reducible refine kQ ?_ ?_);kernel_rfl)|((with_reducible refine k1 ?_ ?_);rfl)|((with_reducible refine k0 ?_ ?_);rfl)|((with_reducible apply kB)<;>first|rfl|intro h)|((with_reducible refine kM ?_ ?_);rfl)|(with_reducible refine Wq.h ?_ ?_)<;>intro h<;>try (exfalso;omega)|(with_reducible refine Wu.h ?_ ?_)<;>intro h<;>try simp only [h]|((fail_if_success with_reducible refine Wz.h ?_);first|simp (disch:=omega) only [↓LD,LA,loadA_rf,seval,stD]|((with_reducible refine And.intro ?_ ?_);omega)|simp only [D.int,D.bool]))
  have h1 : knS.nodes.length = 1:=rfl
  have h2 : (gt knS.nodes 0).st = 2:=rfl
  have h3 : knS.id = 3:=rfl
  have h4 : endingL knS = 9:=by kernel_rfl
  refine callW_pure (c_st_Ending knS (by rw [h1];omega)) rfl rfl rfl ?_
  rw [h4]
  have h5:=at0_fNn (g:=knS.nodes) (k:=0) (by rw [h1];omega)
  rw [Nat.zero_mul] at h5
  repeat' (first|(with_reducible first|refine Wx.h ?_|refine Wb.h fun K hK=>?_|(refine hK _ ?_;clear hK K)|(refine wT ?_ ?_;· assumption)|(refine wF ?_ ?_;· assumption))|((with_reducible refine kQ ?_ ?_);kernel_rfl)|((with_reducible refine k1 ?_ ?_);rfl)|((with_reducible refine k0 ?_ ?_);rfl)|((with_reducible apply kB)<;>first|rfl|intro h)|((with_reducible refine kM ?_ ?_);rfl)|(with_reducible refine Wq.h ?_ ?_)<;>intro h<;>try (exfalso;omega)|(with_reducible refine Wu.h ?_ ?_)<;>intro h<;>try simp only [h]|((fail_if_success with_reducible refine Wz.h ?_);first|simp (disch:=omega) only [↓LD,LA,loadA_rf,seval,LSt,h1,h2,h3,h5,len_fNn,Nn.cs]|((with_reducible refine And.intro ?_ ?_);omega)|simp only [D.int,D.bool]))
  exact end1 rfl rfl (by kernel_rfl) .f ⟨rfl,rfl⟩
instance {H : List Row} {K : D → List Row → Prop} : Wa (callW Tryd.prog (.fn 7 []) [] H K) (K (.f (.v (.bool true))) H):=⟨fun h=>callW_pure c_st_known rfl rfl rfl h⟩
end Go.Proofs.YtgbbpelfpagdoaaDoor.Mir
namespace Go.Proofs.YtgbbpelfpagdoaaDoor.Mir
open Go Go.RowKit
set_option maxHeartbeats 4000000
theorem atG0 {g : List Nd} {k : Nat} (hk : k < g.length) : (g.flatMap Nd.cs)[k * 3]? = (Nd.cs (gt g k))[0]?:=flat_at (j:=0) Nd.cs_len hk (by omega)
theorem atG1 {g : List Nd} {k : Nat} (hk : k < g.length) : (g.flatMap Nd.cs)[k * 3 + 1]? = (Nd.cs (gt g k))[1]?:=flat_at (j:=1) Nd.cs_len hk (by omega)
structure Lg (s : S12) : Prop where
  ok : Ok12 s
  leg : Leg s
  ver : 0 ≤ s.ver ∧ s.ver ≤ 1099511627776
  time : 0 ≤ s.time ∧ s.time ≤ 1099511627776
theorem lg_0 : Lg s0:=⟨ok12_0,leg_0,by simp [s0],by simp [s0]⟩
theorem Lg.apply {s : S12} {e : Ev} (h : Lg s) (he : FitV e) (hr : (applyR s e).1 = 0) : Lg (applyR s e).2:=by
  have h1:=ok12_apply h.ok he.2.2.2 hr
  have h2:=leg_apply h.ok h.leg hr
  obtain ⟨a1,a2,a3,a4,a5,a6,a7,a8⟩:=applyR_ok hr
  have hE:=rightE_iff.1 a1
  have hv:=hE.2.2.1
  simp only [verB,inI,Bool.and_eq_true,decide_eq_true_eq] at hv
  refine ⟨h1,h2,?_,?_⟩
  · rw [a8];dsimp only;omega
  · rw [a8];dsimp only;omega
theorem lg_fold : ∀ {l : List Ev} {s : S12},Lg s → (∀ e ∈ l,FitV e) → (foldR s l).1 = 0 → Lg (foldR s l).2
  | [],s,h,_,_=>h
  | e :: l,s,h,hl,hr=>by
    rw [foldR] at hr ⊢
    by_cases a : (applyR s e).1 = 0
    · rw [if_pos a] at hr ⊢
      exact lg_fold (h.apply (hl e (by simp)) a) (fun x hx=>hl x (by simp [hx])) hr
    · rw [if_neg a] at hr;exact absurd hr a
theorem Lg.nodes {s : S12} (h : Lg s) : s.nodes.length ≤ 8:=by
  have h1:=h.ok.len
  by_cases hz : s.id = 0
  · rw [h.ok.zero hz];simp [s0]
  · obtain ⟨a1,a2,a3⟩:=check_in (h.ok.defs hz)
    omega
theorem next_fit (s : S12) (x : Rw) : FitV (nextE s x):=by
  have h1:=nameL_len x.a
  have h2:=fewL_len (b:=x.data) (n:=20) (by omega)
  refine ⟨?_,?_,⟨by simp [nextE],by simp [nextE]⟩⟩
  · show (dtN x (tyN x)).length ≤ _
    unfold dtN;split
    · omega
    · simp
  · show (nmN x (tyN x)).length ≤ _
    unfold nmN;split
    · omega
    · simp
theorem Lg.next {s : S12} (h : Lg s) (x : Rw) : Con Tryd.prog 9 [stD s,rwD x] [] fun r H'=>r = evD (nextE s x) ∧ H' = []:=by
  have h1:=h.ver
  have h2:=h.time
  have h3:=h.ok.id
  have h4:=h.nodes
  exact c_law_next s x h.ok.wk ⟨by omega,by omega⟩ ⟨by omega,by omega⟩ ⟨by omega,by omega⟩ h.ok.tr (by omega)
theorem Lg.app {s : S12} (h : Lg s) {e : Ev} (he : FitV e) : Con Tryd.prog 10 [stD s,evD e] [] fun r H'=>r = .tp [stD (applyR s e).2,D.int (applyR s e).1] ∧ H' = []:=by
  rw [← applyL_eq h.ok]
  exact c_st_Apply s e h.ok.wk.fit he.1 he.2.2 ⟨h.ok.wk.id.1,h.ok.wk.id.2⟩
instance {s : S12} {e : Ev} {H : List Row} {K : D → List Row → Prop} [hs : Kn (Lg s)] [he : Kn (FitV e)] : Wa (callW Tryd.prog (.fn 10 []) [sA s,eA e] H K)
    (K (.tp [sA (applyR s e).2,.f (.v (.int .i64 (applyR s e).1))]) H):=⟨fun h=>callW_pure (Lg.app hs.h he.h) rfl rfl rfl h⟩
instance {l : List Ev} {H : List Row} {K : D → List Row → Prop} [hl : Kn (l.length ≤ 1000000)] [hf : Kn (∀ e ∈ l,FitV e)] : Wa (callW Tryd.prog (.fn 6 []) [.f (fEv l)] H K)
    (K (.tp [sA (foldR s0 l).2,.f (.v (.int .i64 (foldR s0 l).1))]) H):=⟨fun h=>callW_pure (c_st_Fold l hl.h hf.h) rfl rfl rfl h⟩
instance {s : S12} {x : Rw} {H : List Row} {K : Bool → D → List Row → Prop} [hs : Kn (Lg s)] : Wa (callDr Tryd.prog (.fn 9 []) [sA s,.ag [.f (.v (.int .i64 x.what)),.f (.v (.int .i64 x.a)),.f (.v (.int .i64 x.b)),.f (.v (.int .i64 x.c)),.f (.v (.int .i64 x.v)),.f (fY x.data)]] H K)
    (K true (eA (nextE s x)) H):=⟨fun h=>callDr_pure (Lg.next hs.h x) rfl rfl rfl h⟩
set_option maxRecDepth 100000 in
theorem c_law_StateLegal (steps : List Rw) (defs : List Rd) (l : List Rw) : Con Tryd.prog 4 [.f (fRw steps),.f (fR defs),.f (fRw l)] [] fun r H'=>r = .f (.v (.bool true)) ∧ H' = []:=by
  refine Con.walk good fn_law_StateLegal (by simp) ?_
  unfold s_law_StateLegal
  simp only [argsE]
  repeat' (first|(with_reducible first|refine Wx.h ?_|refine Wb.h fun K hK=>?_|(refine hK _ ?_;clear hK K)|(refine wT ?_ ?_;· assumption)|(refine wF ?_ ?_;· assumption))|((with_reducible refine kQ ?_ ?_);kernel_rfl)|((with_reducible refine k1 ?_ ?_);rfl)|((with_reducible refine k0 ?_ ?_);rfl)|((with_reducible apply kB)<;>first|rfl|intro h)|((with_reducible refine kM ?_ ?_);rfl)|(with_reducible refine Wq.h ?_ ?_)<;>intro h<;>try (exfalso;omega)|(with_reducible refine Wu.h ?_ ?_)<;>intro h<;>try simp only [h]|((fail_if_success with_reducible refine Wz.h ?_);first|simp (disch:=omega) only [↓LD,LA,loadA_rf,seval]|((with_reducible refine And.intro ?_ ?_);omega)|simp only [D.int,D.bool]))
  refine callW_emb (c_play_Branch steps defs) [] (by kernel_rfl) rfl rfl ?_
  rintro _ _ ⟨b,rfl,hb,rfl⟩
  simp (disch:=omega) only [↓LD,LA,loadA_rf,seval,ren,List.getElem?_nil]
  have hbl:=hb.len
  have hbf:=hb.fold
  haveI : Kn (b.length ≤ 1000000):=⟨by omega⟩
  haveI : Kn (∀ e ∈ b,FitV e):=⟨hb.fit⟩
  repeat' (first|(with_reducible first|refine Wx.h ?_|refine We.h fun K hK=>?_|refine Wd.h fun K M hK hM=>?_|(refine hK _ _ _ _ ?_;clear hK K;try clear hM M)|(refine hM ?_;clear hM M;try clear hK K)|refine Wb.h fun K hK=>?_|(refine hK _ ?_;clear hK K)|(refine wT ?_ ?_;· assumption)|(refine wF ?_ ?_;· assumption))|((with_reducible refine kQ ?_ ?_);kernel_rfl)|((with_reducible refine k1 ?_ ?_);rfl)|((with_reducible refine k0 ?_ ?_);rfl)|((with_reducible apply kB)<;>first|rfl|intro h)|((with_reducible refine kM ?_ ?_);rfl)|(with_reducible refine Wq.h ?_ ?_)<;>intro h<;>try (exfalso;omega)|(with_reducible refine Wu.h ?_ ?_)<;>intro h<;>try simp only [h]|((fail_if_success with_reducible refine Wz.h ?_);first|simp (disch:=omega) only [↓LD,LA,loadA_rf,seval,hbf]|((with_reducible refine And.intro ?_ ?_);omega)|simp only [D.int,D.bool]))
  have hlg:=lg_fold lg_0 hb.fit hbf
  generalize (foldR s0 b).2 = s at *
  refine HS.loopG [2,7,9] (fun x : Nat × S12=>⟨frm 180 [(2,.f (fRw l)),(7,.pt 0 0),(9,D.int x.1)],[stF x.2],[]⟩) (fun x=>x.1 ≤ l.length ∧ x.1 ≤ 25 ∧ Lg x.2) (fun x=>25 - x.1) (0,s) (by kernel_rfl) ⟨Nat.zero_le _,Nat.zero_le _,hlg⟩ ?_
  clear hlg hbf hbl hb
  rintro ⟨i,s⟩ ⟨hi,hi2,hs⟩
  dsimp only at hi hi2 hs
  haveI : Kn (Lg s):=⟨hs⟩
  by_cases hil : i < l.length ∧ i < 25
  rotate_left
  · repeat' (first|(with_reducible first|refine Wx.h ?_|refine Wb.h fun K hK=>?_|(refine hK _ ?_;clear hK K)|(refine wT ?_ ?_;· assumption)|(refine wF ?_ ?_;· assumption))|((with_reducible refine kQ ?_ ?_);kernel_rfl)|((with_reducible refine k1 ?_ ?_);rfl)|((with_reducible refine k0 ?_ ?_);rfl)|((with_reducible apply kB)<;>first|rfl|intro h)|((with_reducible refine kM ?_ ?_);rfl)|(with_reducible refine Wq.h ?_ ?_)<;>intro h<;>try (exfalso;omega)|(with_reducible refine Wu.h ?_ ?_)<;>intro h<;>try simp only [h]|((fail_if_success with_reducible refine Wz.h ?_);first|simp (disch:=omega) only [↓LD,LA,loadA_rf,seval,LSt,stF,slcS_fRw,idxS_fRw,load_fRw,-loadA_rf]|((with_reducible refine And.intro ?_ ?_);omega)|simp only [D.int,D.bool]))
    all_goals exact end1 rfl rfl (by kernel_rfl) .f ⟨rfl,rfl⟩
  obtain ⟨hil,hi3⟩:=hil
  haveI : Kn (FitV (nextE s (gt l i))):=⟨next_fit _ _⟩
  refine HS.seq ?_
  refine HS.seq ?_
  repeat' (first|(with_reducible first|refine Wa.h ?_|refine Wr.h ?_|refine Wb.h fun K hK=>?_|(refine hK _ ?_;clear hK K)|(refine wT ?_ ?_;· assumption)|(refine wF ?_ ?_;· assumption))|((with_reducible refine kQ ?_ ?_);kernel_rfl)|((with_reducible refine k1 ?_ ?_);rfl)|((with_reducible refine k0 ?_ ?_);rfl)|((with_reducible apply kB)<;>first|rfl|intro h)|((with_reducible refine kM ?_ ?_);rfl)|(with_reducible refine Wq.h ?_ ?_)<;>intro h<;>try (exfalso;omega)|(with_reducible refine Wu.h ?_ ?_)<;>intro h<;>try simp only [h]|((fail_if_success with_reducible refine Wz.h ?_);first|simp (disch:=omega) only [↓LD,LA,loadA_rf,seval,LSt,stF,slcS_fRw]|((with_reducible refine And.intro ?_ ?_);omega)|simp only [D.int,D.bool]))
  refine HS.seq ?_
  refine HS.block ?_
  refine HS.seq ?_
  repeat' (first|(with_reducible first|refine Wa.h ?_|refine Wr.h ?_|refine We.h fun K hK=>?_|refine Wd.h fun K M hK hM=>?_|(refine hK _ _ _ _ ?_;clear hK K;try clear hM M)|(refine hM ?_;clear hM M;try clear hK K)|refine Wb.h fun K hK=>?_|(refine hK _ ?_;clear hK K)|(refine wT ?_ ?_;· assumption)|(refine wF ?_ ?_;· assumption))|((with_reducible refine kQ ?_ ?_);kernel_rfl)|((with_reducible refine k1 ?_ ?_);rfl)|((with_reducible refine k0 ?_ ?_);rfl)|((with_reducible apply kB)<;>first|rfl|intro h)|((with_reducible refine kM ?_ ?_);rfl)|(with_reducible refine Wq.h ?_ ?_)<;>intro h<;>try (exfalso;omega)|(with_reducible refine Wu.h ?_ ?_)<;>intro h<;>try simp only [h]|((fail_if_success with_reducible refine Wz.h ?_);first|simp (disch:=omega) only [↓LD,LA,loadA_rf,seval,LSt,stF,slcS_fRw,idxS_fRw,len_fRw,load_fRw,Rw.cs,-loadA_rf]|((with_reducible refine And.intro ?_ ?_);omega)|simp only [D.int,D.bool]))
  refine HS.seq ?_
  repeat' (first|(with_reducible first|refine Wa.h ?_|refine Wr.h ?_|refine Wb.h fun K hK=>?_|(refine hK _ ?_;clear hK K)|(refine wT ?_ ?_;· assumption)|(refine wF ?_ ?_;· assumption))|((with_reducible refine kQ ?_ ?_);kernel_rfl)|((with_reducible refine k1 ?_ ?_);rfl)|((with_reducible refine k0 ?_ ?_);rfl)|((with_reducible apply kB)<;>first|rfl|intro h)|((with_reducible refine kM ?_ ?_);rfl)|(with_reducible refine Wq.h ?_ ?_)<;>intro h<;>try (exfalso;omega)|(with_reducible refine Wu.h ?_ ?_)<;>intro h<;>try simp only [h]|((fail_if_success with_reducible refine Wz.h ?_);first|simp (disch:=omega) only [↓LD,LA,loadA_rf,seval,LSt]|((with_reducible refine And.intro ?_ ?_);omega)|simp only [D.int,D.bool]))
  have he:=next_fit s (gt l i)
  generalize nextE s (gt l i) = e at *
  refine HS.seq ?_
  refine HS.cutn (fun y : S12=>⟨frm 180 [(2,.f (fRw l)),(7,.pt 0 0),(9,D.int i)],[stF y],[]⟩) Lg ?_ ?_
  · by_cases hg : (applyR s e).1 = 0
    · obtain ⟨a1,a2,a3,a4,a5,a6,a7,a8⟩:=applyR_ok hg
      have b1 : (applyR s e).2.id = e.id:=by rw [a8]
      have b2 : (applyR s e).2.ver = e.ver:=by rw [a8]
      have b3 : (applyR s e).2.time = e.time:=by rw [a8]
      have hl:=hs.apply he hg
      clear a8
      repeat' (first|(with_reducible first|refine Wx.h ?_|refine Wb.h fun K hK=>?_|(refine hK _ ?_;clear hK K)|(refine wT ?_ ?_;· assumption)|(refine wF ?_ ?_;· assumption))|((with_reducible refine kQ ?_ ?_);kernel_rfl)|((with_reducible refine k1 ?_ ?_);rfl)|((with_reducible refine k0 ?_ ?_);rfl)|((with_reducible apply kB)<;>first|rfl|intro h)|((with_reducible refine kM ?_ ?_);rfl)|(with_reducible refine Wq.h ?_ ?_)<;>intro h<;>try (exfalso;omega)|(with_reducible refine Wu.h ?_ ?_)<;>intro h<;>try simp only [h]|((fail_if_success with_reducible refine Wz.h ?_);first|simp (disch:=omega) only [↓LD,LA,loadA_rf,seval,LSt]|((with_reducible refine And.intro ?_ ?_);omega)|simp only [D.int,D.bool]))
      exact OutN.mk [2,7,9] (applyR s e).2 (by kernel_rfl) hl
    · repeat' (first|(with_reducible first|refine Wx.h ?_|refine Wb.h fun K hK=>?_|(refine hK _ ?_;clear hK K)|(refine wT ?_ ?_;· assumption)|(refine wF ?_ ?_;· assumption))|((with_reducible refine kQ ?_ ?_);kernel_rfl)|((with_reducible refine k1 ?_ ?_);rfl)|((with_reducible refine k0 ?_ ?_);rfl)|((with_reducible apply kB)<;>first|rfl|intro h)|((with_reducible refine kM ?_ ?_);rfl)|(with_reducible refine Wq.h ?_ ?_)<;>intro h<;>try (exfalso;omega)|(with_reducible refine Wu.h ?_ ?_)<;>intro h<;>try simp only [h]|((fail_if_success with_reducible refine Wz.h ?_);first|simp (disch:=omega) only [↓LD,LA,loadA_rf,seval,LSt]|((with_reducible refine And.intro ?_ ?_);omega)|simp only [D.int,D.bool]))
      exact OutN.mk [2,7,9] s (by kernel_rfl) hs
  clear hs
  rename_i s0' _ _ _
  intro s hs s' hv
  refine thenQ_n ?_
  refine HS.view hv ?_
  clear hv s'
  have hlen:=hs.ok.len
  have hn8:=hs.nodes
  refine HS.seq ?_
  refine HS.seq ?_
  repeat' (first|(with_reducible first|refine Wa.h ?_|refine Wr.h ?_|refine Wb.h fun K hK=>?_|(refine hK _ ?_;clear hK K)|(refine wT ?_ ?_;· assumption)|(refine wF ?_ ?_;· assumption))|((with_reducible refine kQ ?_ ?_);kernel_rfl)|((with_reducible refine k1 ?_ ?_);rfl)|((with_reducible refine k0 ?_ ?_);rfl)|((with_reducible apply kB)<;>first|rfl|intro h)|((with_reducible refine kM ?_ ?_);rfl)|(with_reducible refine Wq.h ?_ ?_)<;>intro h<;>try (exfalso;omega)|(with_reducible refine Wu.h ?_ ?_)<;>intro h<;>try simp only [h]|((fail_if_success with_reducible refine Wz.h ?_);first|simp (disch:=omega) only [↓LD,LA,loadA_rf,seval,LSt,stF]|((with_reducible refine And.intro ?_ ?_);omega)|simp only [D.int,D.bool]))
  refine HS.seq ?_
  refine HS.seq ?_
  repeat' (first|(with_reducible first|refine Wx.h ?_|refine Wb.h fun K hK=>?_|(refine hK _ ?_;clear hK K)|(refine wT ?_ ?_;· assumption)|(refine wF ?_ ?_;· assumption))|((with_reducible refine kQ ?_ ?_);kernel_rfl)|((with_reducible refine k1 ?_ ?_);rfl)|((with_reducible refine k0 ?_ ?_);rfl)|((with_reducible apply kB)<;>first|rfl|intro h)|((with_reducible refine kM ?_ ?_);rfl)|(with_reducible refine Wq.h ?_ ?_)<;>intro h<;>try (exfalso;omega)|(with_reducible refine Wu.h ?_ ?_)<;>intro h<;>try simp only [h]|((fail_if_success with_reducible refine Wz.h ?_);first|simp (disch:=omega) only [↓LD,LA,loadA_rf,seval]|((with_reducible refine And.intro ?_ ?_);omega)|simp only [D.int,D.bool]))
  refine HS.loopG [2,7,9,13] (fun k : Nat=>⟨frm 180 [(2,.f (fRw l)),(7,.pt 0 0),(9,D.int i),(13,D.int k)],[stF s],[]⟩) (fun k=>k ≤ s.nodes.length) (fun k=>s.nodes.length - k) 0 (by kernel_rfl) (Nat.zero_le _) ?_
  intro k hk
  by_cases hkl : k < s.nodes.length
  rotate_left
  · repeat' (first|(with_reducible first|refine Wx.h ?_|refine Wb.h fun K hK=>?_|(refine hK _ ?_;clear hK K)|(refine wT ?_ ?_;· assumption)|(refine wF ?_ ?_;· assumption))|((with_reducible refine kQ ?_ ?_);kernel_rfl)|((with_reducible refine k1 ?_ ?_);rfl)|((with_reducible refine k0 ?_ ?_);rfl)|((with_reducible apply kB)<;>first|rfl|intro h)|((with_reducible refine kM ?_ ?_);rfl)|(with_reducible refine Wq.h ?_ ?_)<;>intro h<;>try (exfalso;omega)|(with_reducible refine Wu.h ?_ ?_)<;>intro h<;>try simp only [h]|((fail_if_success with_reducible refine Wz.h ?_);first|simp (disch:=omega) only [↓LD,LA,loadA_rf,seval,LSt,stF]|((with_reducible refine And.intro ?_ ?_);omega)|simp only [D.int,D.bool]))
    have hpw:=hs.leg.names
    refine HS.loopG [2,7,9,16] (fun x : Nat=>⟨frm 180 [(2,.f (fRw l)),(7,.pt 0 0),(9,D.int i),(16,D.int x)],[stF s],[]⟩) (fun x=>x ≤ s.sgs.length) (fun x=>s.sgs.length - x) 0 (by kernel_rfl) (Nat.zero_le _) ?_
    intro x hx
    have hsl:=hs.ok.sgs
    have hid:=hs.ok.id
    by_cases hxl : x < s.sgs.length
    · repeat' (first|(with_reducible first|refine Wx.h ?_|refine Wb.h fun K hK=>?_|(refine hK _ ?_;clear hK K)|(refine wT ?_ ?_;· assumption)|(refine wF ?_ ?_;· assumption))|((with_reducible refine kQ ?_ ?_);kernel_rfl)|((with_reducible refine k1 ?_ ?_);rfl)|((with_reducible refine k0 ?_ ?_);rfl)|((with_reducible apply kB)<;>first|rfl|intro h)|((with_reducible refine kM ?_ ?_);rfl)|(with_reducible refine Wq.h ?_ ?_)<;>intro h<;>try (exfalso;omega)|(with_reducible refine Wu.h ?_ ?_)<;>intro h<;>try simp only [h]|((fail_if_success with_reducible refine Wz.h ?_);first|simp (disch:=omega) only [↓LD,LA,loadA_rf,seval,LSt,stF]|((with_reducible refine And.intro ?_ ?_);omega)|simp only [D.int,D.bool]))
      refine HS.loopG [2,7,9,16,17] (fun j : Nat=>⟨frm 180 [(2,.f (fRw l)),(7,.pt 0 0),(9,D.int i),(16,D.int x),(17,D.int j)],[stF s],[]⟩) (fun j=>j ≤ x) (fun j=>x - j) 0 (by kernel_rfl) (Nat.zero_le _) ?_
      intro j hj
      by_cases hjx : j < x
      · have hne : (gt s.sgs j).name ≠ (gt s.sgs x).name:=by
          have:=List.pairwise_iff_getElem.1 hpw j x (by omega) hxl hjx
          rw [gt_eq (by omega),gt_eq hxl];exact this
        repeat' (first|(with_reducible first|refine Wx.h ?_|refine We.h fun K hK=>?_|refine Wd.h fun K M hK hM=>?_|(refine hK _ _ _ _ ?_;clear hK K;try clear hM M)|(refine hM ?_;clear hM M;try clear hK K)|refine Wb.h fun K hK=>?_|(refine hK _ ?_;clear hK K)|(refine wT ?_ ?_;· assumption)|(refine wF ?_ ?_;· assumption))|((with_reducible refine kQ ?_ ?_);kernel_rfl)|((with_reducible refine k1 ?_ ?_);rfl)|((with_reducible refine k0 ?_ ?_);rfl)|((with_reducible apply kB)<;>first|rfl|intro h)|((with_reducible refine kM ?_ ?_);rfl)|(with_reducible refine Wq.h ?_ ?_)<;>intro h<;>try (exfalso;omega)|(with_reducible refine Wu.h ?_ ?_)<;>intro h<;>try simp only [h]|((fail_if_success with_reducible refine Wz.h ?_);first|simp (disch:=omega) only [↓LD,LA,loadA_rf,seval,LSt,stF,at0_fSg,Sg.cs,len_fSg,hne]|((with_reducible refine And.intro ?_ ?_);omega)|simp only [D.int,D.bool]))
        exact Next.mk (j + 1) (by kernel_rfl) (by omega) (by omega)
      · repeat' (first|(with_reducible first|refine Wx.h ?_|refine Wb.h fun K hK=>?_|(refine hK _ ?_;clear hK K)|(refine wT ?_ ?_;· assumption)|(refine wF ?_ ?_;· assumption))|((with_reducible refine kQ ?_ ?_);kernel_rfl)|((with_reducible refine k1 ?_ ?_);rfl)|((with_reducible refine k0 ?_ ?_);rfl)|((with_reducible apply kB)<;>first|rfl|intro h)|((with_reducible refine kM ?_ ?_);rfl)|(with_reducible refine Wq.h ?_ ?_)<;>intro h<;>try (exfalso;omega)|(with_reducible refine Wu.h ?_ ?_)<;>intro h<;>try simp only [h]|((fail_if_success with_reducible refine Wz.h ?_);first|simp (disch:=omega) only [↓LD,LA,loadA_rf,seval,LSt,stF]|((with_reducible refine And.intro ?_ ?_);omega)|simp only [D.int,D.bool]))
        exact Next.mk (x + 1) (by kernel_rfl) (by omega) (by omega)
    · repeat' (first|(with_reducible first|refine Wx.h ?_|refine Wb.h fun K hK=>?_|(refine hK _ ?_;clear hK K)|(refine wT ?_ ?_;· assumption)|(refine wF ?_ ?_;· assumption))|((with_reducible refine kQ ?_ ?_);kernel_rfl)|((with_reducible refine k1 ?_ ?_);rfl)|((with_reducible refine k0 ?_ ?_);rfl)|((with_reducible apply kB)<;>first|rfl|intro h)|((with_reducible refine kM ?_ ?_);rfl)|(with_reducible refine Wq.h ?_ ?_)<;>intro h<;>try (exfalso;omega)|(with_reducible refine Wu.h ?_ ?_)<;>intro h<;>try simp only [h]|((fail_if_success with_reducible refine Wz.h ?_);first|simp (disch:=omega) only [↓LD,LA,loadA_rf,seval,LSt,stF]|((with_reducible refine And.intro ?_ ?_);omega)|simp only [D.int,D.bool]))
      exact Next.mk (i + 1,s) (by kernel_rfl) ⟨by dsimp only;omega,by dsimp only;omega,hs⟩ (by dsimp only;omega)
  obtain ⟨c1,c2,c3⟩:=hs.leg.tries k hkl
  have c4:=hs.leg.need k hkl
  clear c2
  have c5:=hs.ok.need _ (gt_mem (l:=s.defs) (k:=k) (by omega))
  generalize hn : gt s.nodes k = n at *
  generalize hd : gt s.defs k = d at *
  have c6 : n.st ≠ 3 ∨ n.tr = d.tr:=by
    by_cases q : n.st = 3
    · exact .inr (c3 q)
    · exact .inl q
  clear c3
  repeat' (first|(with_reducible first|refine Wx.h ?_|refine We.h fun K hK=>?_|refine Wd.h fun K M hK hM=>?_|(refine hK _ _ _ _ ?_;clear hK K;try clear hM M)|(refine hM ?_;clear hM M;try clear hK K)|refine Wb.h fun K hK=>?_|(refine hK _ ?_;clear hK K)|(refine wT ?_ ?_;· assumption)|(refine wF ?_ ?_;· assumption))|((with_reducible refine kQ ?_ ?_);kernel_rfl)|((with_reducible refine k1 ?_ ?_);rfl)|((with_reducible refine k0 ?_ ?_);rfl)|((with_reducible apply kB)<;>first|rfl|intro h)|((with_reducible refine kM ?_ ?_);rfl)|(with_reducible refine Wq.h ?_ ?_)<;>intro h<;>try (exfalso;omega)|(with_reducible refine Wu.h ?_ ?_)<;>intro h<;>try simp only [h]|((fail_if_success with_reducible refine Wz.h ?_);first|simp (disch:=omega) only [↓LD,LA,loadA_rf,seval,LSt,stF,load_fNn,Nn.cs,len_fNn,len_fG,atG1,Nd.cs,hn,hd,-loadA_rf]|((with_reducible refine And.intro ?_ ?_);omega)|simp only [D.int,D.bool]))
  all_goals
    refine HS.loopG [2,7,9,13,14,15] (fun j : Nat=>⟨frm 180 [(2,.f (fRw l)),(7,.pt 0 0),(9,D.int i),(13,D.int k),(14,.pt 1 0),(15,D.int j)],[stF s,.box 48 [D.int n.st,D.int n.tr,D.int n.due,.f (fY n.data)]],[]⟩) (fun j=>j ≤ d.ns.length) (fun j=>d.ns.length - j) 0 (by kernel_rfl) (Nat.zero_le _) ?_
    intro j hj
    by_cases hjl : j < d.ns.length ∧ 0 < n.tr
    · obtain ⟨hjl,hp⟩:=hjl
      obtain ⟨e1,e2,e3⟩:=c4 hp _ (gt_mem hjl)
      generalize hm : gt d.ns j = m at *
      repeat' (first|(with_reducible first|refine Wx.h ?_|refine We.h fun K hK=>?_|refine Wd.h fun K M hK hM=>?_|(refine hK _ _ _ _ ?_;clear hK K;try clear hM M)|(refine hM ?_;clear hM M;try clear hK K)|refine Wb.h fun K hK=>?_|(refine hK _ ?_;clear hK K)|(refine wT ?_ ?_;· assumption)|(refine wF ?_ ?_;· assumption))|((with_reducible refine kQ ?_ ?_);kernel_rfl)|((with_reducible refine k1 ?_ ?_);rfl)|((with_reducible refine k0 ?_ ?_);rfl)|((with_reducible apply kB)<;>first|rfl|intro h)|((with_reducible refine kM ?_ ?_);rfl)|(with_reducible refine Wq.h ?_ ?_)<;>intro h<;>try (exfalso;omega)|(with_reducible refine Wu.h ?_ ?_)<;>intro h<;>try simp only [h]|((fail_if_success with_reducible refine Wz.h ?_);first|simp (disch:=omega) only [↓LD,LA,loadA_rf,seval,LSt,stF,at0_fNn,Nn.cs,len_fNn,len_fG,atG0,Nd.cs,hn,hd,hm,e3]|((with_reducible refine And.intro ?_ ?_);omega)|simp only [D.int,D.bool]))
      exact Next.mk (j + 1) (by kernel_rfl) (by omega) (by omega)
    · repeat' (first|(with_reducible first|refine Wx.h ?_|refine Wb.h fun K hK=>?_|(refine hK _ ?_;clear hK K)|(refine wT ?_ ?_;· assumption)|(refine wF ?_ ?_;· assumption))|((with_reducible refine kQ ?_ ?_);kernel_rfl)|((with_reducible refine k1 ?_ ?_);rfl)|((with_reducible refine k0 ?_ ?_);rfl)|((with_reducible apply kB)<;>first|rfl|intro h)|((with_reducible refine kM ?_ ?_);rfl)|(with_reducible refine Wq.h ?_ ?_)<;>intro h<;>try (exfalso;omega)|(with_reducible refine Wu.h ?_ ?_)<;>intro h<;>try simp only [h]|((fail_if_success with_reducible refine Wz.h ?_);first|simp (disch:=omega) only [↓LD,LA,loadA_rf,seval,LSt,stF,len_fG,atG0,Nd.cs,hd]|((with_reducible refine And.intro ?_ ?_);omega)|simp only [D.int,D.bool]))
      all_goals exact Next.mk (k + 1) (by kernel_rfl) (by omega) (by omega)
end Go.Proofs.YtgbbpelfpagdoaaDoor.Mir
namespace Go.Proofs.YtgbbpelfpagdoaaDoor
open Go Go.RowKit
theorem stateLegal_walk (W : World) (hg : ∀ p ∈ Mir.glTab,Mir.RF W (fun _=>False) p.1 p.2) (a0 : Option Addr) (c0 : Nat) (xs : List RwIn) (a1 : Option Addr) (c1 : Nat) (ys : List RawIn) (a2 : Option Addr) (c2 : Nat) (zs : List RwIn) (h : InS rwV (rwOk W) 64 W a0 c0 xs) (k : InS rawV (rawOk W) 40 W a1 c1 ys) (k2 : InS rwV (rwOk W) 64 W a2 c2 zs) :
    Calls Tryd.prog 4 #[.slice a0 xs.length c0,.slice a1 ys.length c1,.slice a2 zs.length c2] W fun e w'=>e = .returned (.bool true) ∧ Below W.heap.size W w' :=
  Mir.Con.calls (Mir.c_law_StateLegal (xs.map rwDD) (ys.map rawD) (zs.map rwDD)) hg fun _ hA=>.one (.f (rf_rws hA h)) (.one (.f (rf_raws hA k)) (.one (.f (rf_rws hA k2)) .none))
end Go.Proofs.YtgbbpelfpagdoaaDoor
