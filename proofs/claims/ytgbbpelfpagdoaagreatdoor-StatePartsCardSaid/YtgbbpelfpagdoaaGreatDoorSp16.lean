/- Texts laid into one file: SpB, StatePartsIn. -/
import Derived.Test.YtgbbpelfpagdoaaGreatDoorSp15
set_option linter.unusedVariables false
set_option linter.unusedSimpArgs false
namespace Go.Proofs.YtgbbpelfpagdoaaGreatDoor.Mir
open Go Go.RowKit
set_option maxHeartbeats 4000000
theorem subS_fEv {H : List Row} {E : TypeId} {b : List Ev} {h : Nat} (hh : h ≤ b.length) : subS H 9 E (.f (fEv b)) 0 h = some (.f (fEv (b.take h))):=by
  rw [fEv,subS_s,fEv,List.length_take,Nat.min_eq_left hh]
  have key : ∀ (l : List Ev) (k : Nat),(l.flatMap Ev.cs).take (k * 9) = (l.take k).flatMap Ev.cs:=by
    intro l
    induction l with
    | nil=>intro k;simp
    | cons e l ih =>
      intro k
      cases k with
      | zero=>simp
      | succ k =>
        rw [List.take_succ_cons,List.flatMap_cons,List.flatMap_cons,List.take_append,List.take_of_length_le (by rw [Ev.cs_len];omega),Ev.cs_len,show (k + 1) * 9 - 9 = k * 9 by omega,ih]
  simp [key]
theorem Ok12.app {s : S12} (h : Ok12 s) {e : Ev} (he : FitV e) : Con Tryz.prog 12 [stD s,evD e] [] fun r H'=>r = .tp [stD (applyR s e).2,D.int (applyR s e).1] ∧ H' = []:=by
  rw [← applyL_eq h]
  exact c_st_Apply s e h.wk.fit he.1 he.2.2 ⟨h.wk.id.1,h.wk.id.2⟩
instance {l : List Ev} {H : List Row} {K : D → List Row → Prop} [hl : Kn (l.length ≤ 1000000)] [hf : Kn (∀ e ∈ l,FitV e)] : Wa (callW Tryz.prog (.fn 11 []) [.f (fEv l)] H K)
    (K (.tp [sA (foldR s0 l).2,.f (.v (.int .i64 (foldR s0 l).1))]) H):=⟨fun h=>callW_pure (c_st_Fold l hl.h hf.h) rfl rfl rfl h⟩
instance {s t : S12} {H : List Row} {K : D → List Row → Prop} [hs : Kn (FitS s)] [ht : Kn (FitS t)] : Wa (callW Tryz.prog (.fn 9 []) [sA s,sA t] H K) (K (.f (.v (.bool (eqB s t)))) H):=⟨fun h=>callW_pure (c_st_Same s t hs.h ht.h) rfl rfl rfl h⟩
instance {l : List Ev} {H : List Row} {K : D → List Row → Prop} [hl : Kn (BrOk l)] : Wa (callW Tryz.prog (.fn 13 []) [.f (fEv l)] H K) (K (.f (.v (.bool true))) H):=⟨fun h=>callW_pure (c_ev_Line l hl.h) rfl rfl rfl h⟩
instance {s : S12} {e : Ev} {H : List Row} {K : Bool → D → List Row → Prop} [hs : Kn (Ok12 s)] [he : Kn (FitV e)] : Wa (callDr Tryz.prog (.fn 12 []) [sA s,eA e] H K)
    (K true (.tp [sA (applyR s e).2,.f (.v (.int .i64 (applyR s e).1))]) H):=⟨fun h=>callDr_pure (hs.h.app he.h) rfl rfl rfl h⟩
set_option maxRecDepth 100000 in
theorem c_law_StateParts (steps : List Rw) (defs : List Rd) (cut : Int) : Con Tryz.prog 4 [.f (fRw steps),.f (fR defs),D.int cut] [] fun r H'=>r = .f (.v (.bool true)) ∧ H' = []:=by
  refine Con.walk good fn_law_StateParts (by simp) ?_
  unfold s_law_StateParts
  simp only [argsE]
  repeat' (first|(with_reducible first|refine Wx.h ?_|refine Wb.h fun K hK=>?_|(refine hK _ ?_;clear hK K)|(refine wT ?_ ?_;· assumption)|(refine wF ?_ ?_;· assumption))|((with_reducible refine kQ ?_ ?_);kernel_rfl)|((with_reducible refine k1 ?_ ?_);rfl)|((with_reducible refine k0 ?_ ?_);rfl)|((with_reducible apply kB)<;>first|rfl|intro h)|((with_reducible refine kM ?_ ?_);rfl)|(with_reducible refine Wq.h ?_ ?_)<;>intro h<;>try (exfalso;omega)|(with_reducible refine Wu.h ?_ ?_)<;>intro h<;>try simp only [h]|((fail_if_success with_reducible refine Wz.h ?_);first|simp (disch:=omega) only [↓LD,LA,loadA_rf,seval]|((with_reducible refine And.intro ?_ ?_);omega)|simp only [D.int,D.bool]))
  refine callW_emb (c_play_Branch steps defs) [] (by kernel_rfl) rfl rfl ?_
  rintro _ _ ⟨b,rfl,hb,rfl⟩
  simp (disch:=omega) only [↓LD,LA,loadA_rf,seval,ren,List.getElem?_nil]
  have hbl:=hb.len
  have hbf:=hb.fold
  have pk:=pick_in (x:=cut) (n:=b.length + 1) (by omega)
  haveI : Kn (b.length ≤ 1000000):=⟨by omega⟩
  haveI : Kn (∀ e ∈ b,FitV e):=⟨hb.fit⟩
  obtain ⟨c,hc⟩ : ∃ c : Nat,pick cut (b.length + 1) = c:=⟨(pick cut (b.length + 1)).toNat,by omega⟩
  haveI : Kn ((b.take c).length ≤ 1000000):=⟨by simp;omega⟩
  haveI : Kn (∀ e ∈ b.take c,FitV e):=⟨fun e he=>hb.fit e (List.mem_of_mem_take he)⟩
  have hp:=foldR_part (i:=c) hbf
  have hs : ∀ H : List Row,subS H 9 42 (.f (fEv b)) 0 c = some (.f (fEv (b.take c))):=fun H=>subS_fEv (by omega)
  repeat' (first|(with_reducible first|refine Wx.h ?_|refine Wb.h fun K hK=>?_|(refine hK _ ?_;clear hK K)|(refine wT ?_ ?_;· assumption)|(refine wF ?_ ?_;· assumption))|((with_reducible refine kQ ?_ ?_);kernel_rfl)|((with_reducible refine k1 ?_ ?_);rfl)|((with_reducible refine k0 ?_ ?_);rfl)|((with_reducible apply kB)<;>first|rfl|intro h)|((with_reducible refine kM ?_ ?_);rfl)|(with_reducible refine Wq.h ?_ ?_)<;>intro h<;>try (exfalso;omega)|(with_reducible refine Wu.h ?_ ?_)<;>intro h<;>try simp only [h]|((fail_if_success with_reducible refine Wz.h ?_);first|simp (disch:=omega) only [↓LD,LA,loadA_rf,seval,LEv,hbf,hc,hs,hp,Int.toNat_natCast]|((with_reducible refine And.intro ?_ ?_);omega)|simp only [D.int,D.bool]))
  refine HS.loopG [7,8,9,10] (fun i : Nat=>⟨frm 78 [(7,.f (fEv b)),(8,.pt 0 0),(9,D.int 0),(10,D.int i)],[stF (foldR s0 (b.take i)).2],[]⟩) (fun i=>i ≤ b.length) (fun i=>b.length - i) c (by kernel_rfl) (by omega) ?_
  intro i hi
  have hi0:=foldR_part (i:=i) hbf
  have hok:=foldR_ok ok12_0 (fun e he=>hb.fit e (List.mem_of_mem_take he)) hi0
  haveI : Kn (Ok12 (foldR s0 (b.take i)).2):=⟨hok⟩
  by_cases hil : i < b.length
  · have hm:=foldR_more hil hbf
    have hn:=foldR_part (i:=i + 1) hbf
    haveI : Kn (FitV (gt b i)):=⟨hb.fit _ (gt_mem hil)⟩
    repeat' (first|(with_reducible first|refine Wx.h ?_|refine We.h fun K hK=>?_|refine Wd.h fun K M hK hM=>?_|(refine hK _ _ _ _ ?_;clear hK K;try clear hM M)|(refine hM ?_;clear hM M;try clear hK K)|refine Wb.h fun K hK=>?_|(refine hK _ ?_;clear hK K)|(refine wT ?_ ?_;· assumption)|(refine wF ?_ ?_;· assumption))|((with_reducible refine kQ ?_ ?_);kernel_rfl)|((with_reducible refine k1 ?_ ?_);rfl)|((with_reducible refine k0 ?_ ?_);rfl)|((with_reducible apply kB)<;>first|rfl|intro h)|((with_reducible refine kM ?_ ?_);rfl)|(with_reducible refine Wq.h ?_ ?_)<;>intro h<;>try (exfalso;omega)|(with_reducible refine Wu.h ?_ ?_)<;>intro h<;>try simp only [h]|((fail_if_success with_reducible refine Wz.h ?_);first|simp (disch:=omega) only [↓LD,LA,loadA_rf,seval,LEv,LSt,stF,load_fEv,len_fEv,Ev.cs,hm,hn,-loadA_rf]|((with_reducible refine And.intro ?_ ?_);omega)|simp only [D.int,D.bool]))
    exact Next.mk (i + 1) (by kernel_rfl) (by omega) (by omega)
  · rw [List.take_of_length_le (show b.length ≤ i by omega)]
    haveI : Kn (FitS (foldR s0 b).2):=⟨hb.ok.wk.fit.fit⟩
    haveI : Kn (BrOk b):=⟨hb⟩
    have hid:=hb.id
    repeat' (first|(with_reducible first|refine Wx.h ?_|refine Wb.h fun K hK=>?_|(refine hK _ ?_;clear hK K)|(refine wT ?_ ?_;· assumption)|(refine wF ?_ ?_;· assumption))|((with_reducible refine kQ ?_ ?_);kernel_rfl)|((with_reducible refine k1 ?_ ?_);rfl)|((with_reducible refine k0 ?_ ?_);rfl)|((with_reducible apply kB)<;>first|rfl|intro h)|((with_reducible refine kM ?_ ?_);rfl)|(with_reducible refine Wq.h ?_ ?_)<;>intro h<;>try (exfalso;omega)|(with_reducible refine Wu.h ?_ ?_)<;>intro h<;>try simp only [h]|((fail_if_success with_reducible refine Wz.h ?_);first|simp (disch:=omega) only [↓LD,LA,loadA_rf,seval,LEv,LSt,stF,hbf,eqB_self]|((with_reducible refine And.intro ?_ ?_);omega)|simp only [D.int,D.bool]))
    exact end1 rfl rfl (by kernel_rfl) .f ⟨rfl,rfl⟩
end Go.Proofs.YtgbbpelfpagdoaaGreatDoor.Mir
namespace Go.Proofs.YtgbbpelfpagdoaaGreatDoor
open Go Go.RowKit
theorem stateParts_walk (W : World) (hg : ∀ p ∈ Mir.glTab,Mir.RF W (fun _=>False) p.1 p.2) (a0 : Option Addr) (c0 : Nat) (xs : List RwIn) (a1 : Option Addr) (c1 : Nat) (ys : List RawIn) (n : Int) (h : InS rwV (rwOk W) 64 W a0 c0 xs) (k : InS rawV (rawOk W) 40 W a1 c1 ys) (_ : -9223372036854775808 ≤ n ∧ n ≤ 9223372036854775807) :
    Calls Tryz.prog 4 #[.slice a0 xs.length c0,.slice a1 ys.length c1,.int .i64 n] W fun e w'=>e = .returned (.bool true) ∧ Below W.heap.size W w' :=
  Mir.Con.calls (Mir.c_law_StateParts (xs.map rwDD) (ys.map rawD) n) hg fun _ hA=>.one (.f (rf_rws hA h)) (.one (.f (rf_raws hA k)) (.one (.f (.v rfl)) .none))
end Go.Proofs.YtgbbpelfpagdoaaGreatDoor
