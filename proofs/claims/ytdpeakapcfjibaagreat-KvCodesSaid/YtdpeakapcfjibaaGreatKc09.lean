/- Texts laid into one file: KvA, CEqB, KvB, CLawKvC, KvL, MirClone, MirSortG, MirSorted, CrcMath, Once, CrcZ. -/
import Derived.Test.YtdpeakapcfjibaaGreatKc08
import Derived.Ground.SlmcProg
import Derived.Shelf.SlMaps.Clone
import Derived.Shelf.SlIterI.Nil
import Derived.Shelf.SlIter.Nil
import Derived.Shelf.SortM.Plain
import Derived.Shelf.SortM.SortNone
import Derived.Ground.GgzProg
import Derived.Ground.SlgmProg
import Derived.Test.YtdpeakapcfjibaaGreatRows
import Derived.Defers
import Derived.Laws.Pointers
import Derived.RegionTactic
import Derived.RegionCalls
import Derived.ChangeAlike
import Derived.Laws.BitsAll
import Derived.Outline
set_option linter.unusedVariables false
set_option linter.unusedSimpArgs false
namespace Go.Proofs.YtdpeakapcfjibaaGreat.Mir
open Go Go.RowKit
set_option maxHeartbeats 2000000
structure Ch7 where
  key : Bs
  has : Bool
  val : Bs
  deriving Inhabited
def Ch7.cs (c : Ch7) : List F:=[.v (.string (BB c.key)),.v (.bool c.has),fY c.val]
abbrev chD (c : Ch7) : D:=.ag [.f (.v (.string (BB c.key))),.f (.v (.bool c.has)),.f (fY c.val)]
def badC (c : Ch7) : Prop:=c.key = [] ∨ 255 < c.key.length ∨ 65535 < c.val.length ∨ (c.has = false ∧ 0 < c.val.length)
instance (c : Ch7) : Decidable (badC c):=by unfold badC;infer_instance
def layB (c : Ch7) : Bs:=beB 1 (if c.has then 1 else 0) ++ shB c.key ++ (if c.has then shB c.val else [])
def layC (c : Ch7) : Bs × Int:=if badC c then ([],1) else (layB c,0)
set_option maxRecDepth 100000 in
theorem c_kv_Lay (c : Ch7) : Con Tryz.prog 33 [chD c] [] fun r H'=>r = .tp [.f (fY (layC c).1),D.int (layC c).2] ∧ H' = []:=by
  suffices hh : ∀ Q : D → List Row → Prop,Q (.tp [.f (fY (layC c).1),D.int (layC c).2]) [] → Con Tryz.prog 33 [chD c] [] Q from hh _ ⟨rfl,rfl⟩
  intro Q hQ
  obtain ⟨k,has,v⟩:=c
  refine Con.walk good fn_kv_Lay (by simp) ?_
  unfold s_kv_Lay
  simp only [argsE]
  by_cases hb : badC ⟨k,has,v⟩
  · rw [layC,if_pos hb] at hQ
    simp only [badC] at hb
    cases has
    all_goals
      repeat' (with_reducible first|refine Wx.h ?_|refine Wb.h fun K hK=>?_|(refine hK _ ?_;clear hK K)|(refine wT ?_ ?_;assumption)|(refine wF ?_ ?_;assumption)|(refine Wy.h ?_ ?_;kernel_rfl)|refine Wq.h ?_ ?_<;>intro h<;>try (exfalso;omega)|refine Wu.h ?_ ?_<;>intro h<;>try simp only [h]|((fail_if_success refine Wz.h ?_);first|simp (disch:=omega) only [↓LD,LA,loadA_rf,seval,bb_nil]|(refine And.intro ?_ ?_;omega)|simp only [D.int,D.bool]))
      all_goals first
        | exact RetS.still (ds:=[jN,D.int 1]) (by kernel_rfl) (by kernel_rfl) (.tps (.cons .nil (.cons .f .nil))) hQ
        | (exfalso;rcases hb with hb|hb|hb|⟨hb,hb2⟩<;>first|contradiction|omega|(have h9:=congrArg List.length hb;rw [List.length_nil] at h9;omega))
  · rw [layC,if_neg hb] at hQ
    simp only [badC,not_or] at hb
    obtain ⟨g1,g2,g3,g4⟩:=hb
    have g1' : ¬ (k.length : Int) < 1:=fun h=>g1 (List.eq_nil_of_length_eq_zero (by omega))
    have g2' : ¬ 255 < (k.length : Int):=by omega
    have g3' : ¬ 65535 < (v.length : Int):=by omega
    cases has
    · have g5 : v.length = 0:=by simpa using g4
      obtain rfl:=List.eq_nil_of_length_eq_zero g5
      have e : layB ⟨k,false,[]⟩ = beB 1 0 ++ shB k:=by simp [layB]
      rw [e] at hQ
      repeat' (with_reducible first|refine Wx.h ?_|refine Wb.h fun K hK=>?_|(refine hK _ ?_;clear hK K)|(refine wT ?_ ?_;assumption)|(refine wF ?_ ?_;assumption)|(refine Wy.h ?_ ?_;kernel_rfl)|refine Wq.h ?_ ?_<;>intro h<;>try (exfalso;omega)|refine Wu.h ?_ ?_<;>intro h<;>try simp only [h]|((fail_if_success refine Wz.h ?_);first|simp (disch:=omega) only [↓LD,LA,loadA_rf,seval,bb_nil]|(refine And.intro ?_ ?_;omega)|simp only [D.int,D.bool]))
      refine callW_emb c_oc_NewWriter [] (by kernel_rfl) rfl rfl ?_
      rintro _ _ ⟨rfl,rfl⟩
      simp (disch:=omega) only [↓LD,LA,loadA_rf,seval,ren,List.getElem?_nil]
      repeat' (with_reducible first|refine Wx.h ?_|refine Wb.h fun K hK=>?_|(refine hK _ ?_;clear hK K)|(refine wT ?_ ?_;assumption)|(refine wF ?_ ?_;assumption)|(refine Wy.h ?_ ?_;kernel_rfl)|refine Wq.h ?_ ?_<;>intro h<;>try (exfalso;omega)|refine Wu.h ?_ ?_<;>intro h<;>try simp only [h]|((fail_if_success refine Wz.h ?_);first|simp (disch:=omega) only [↓LD,LA,loadA_rf,seval]|(refine And.intro ?_ ?_;omega)|simp only [D.int,D.bool]))
      refine callW_emb (c_oc_WU8n 0 (by decide)) [1] (by kernel_rfl) rfl rfl ?_
      rintro _ _ ⟨rfl,rfl⟩
      simp (disch:=omega) only [↓LD,LA,loadA_rf,seval,ren,List.getElem?_nil,wB,dW]
      repeat' (with_reducible first|refine Wx.h ?_|refine Wb.h fun K hK=>?_|(refine hK _ ?_;clear hK K)|(refine wT ?_ ?_;assumption)|(refine wF ?_ ?_;assumption)|(refine Wy.h ?_ ?_;kernel_rfl)|refine Wq.h ?_ ?_<;>intro h<;>try (exfalso;omega)|refine Wu.h ?_ ?_<;>intro h<;>try simp only [h]|((fail_if_success refine Wz.h ?_);first|simp (disch:=omega) only [↓LD,LA,loadA_rf,seval]|(refine And.intro ?_ ?_;omega)|simp only [D.int,D.bool]))
      refine callW_emb (c_oc_WText (beB 1 0) k (by decide) (by omega)) [1,2] (by kernel_rfl) rfl rfl ?_
      rintro _ _ ⟨rfl,rfl⟩
      simp (disch:=omega) only [↓LD,LA,loadA_rf,seval,ren,List.getElem?_nil,wB,dW]
      repeat' (with_reducible first|refine Wx.h ?_|refine Wb.h fun K hK=>?_|(refine hK _ ?_;clear hK K)|(refine wT ?_ ?_;assumption)|(refine wF ?_ ?_;assumption)|(refine Wy.h ?_ ?_;kernel_rfl)|refine Wq.h ?_ ?_<;>intro h<;>try (exfalso;omega)|refine Wu.h ?_ ?_<;>intro h<;>try simp only [h]|((fail_if_success refine Wz.h ?_);first|simp (disch:=omega) only [↓LD,LA,loadA_rf,seval]|(refine And.intro ?_ ?_;omega)|simp only [D.int,D.bool]))
      refine callW_emb (c_oc_Bytes (beB 1 0 ++ shB k) (by simp [shB,beB_len];omega)) [1,3] (by kernel_rfl) rfl rfl ?_
      rintro _ _ ⟨rfl,rfl⟩
      simp (disch:=omega) only [↓LD,LA,loadA_rf,seval,ren,List.getElem?_nil,wB,dW]
      repeat' (with_reducible first|refine Wx.h ?_|refine Wb.h fun K hK=>?_|(refine hK _ ?_;clear hK K)|(refine wT ?_ ?_;assumption)|(refine wF ?_ ?_;assumption)|(refine Wy.h ?_ ?_;kernel_rfl)|refine Wq.h ?_ ?_<;>intro h<;>try (exfalso;omega)|refine Wu.h ?_ ?_<;>intro h<;>try simp only [h]|((fail_if_success refine Wz.h ?_);first|simp (disch:=omega) only [↓LD,LA,loadA_rf,seval]|(refine And.intro ?_ ?_;omega)|simp only [D.int,D.bool]))
      exact RetS.still (ds:=[.f (fY (beB 1 0 ++ shB k)),D.int 0]) (by kernel_rfl) (by kernel_rfl) (.tps (.cons .f (.cons .f .nil))) hQ
    · have e : layB ⟨k,true,v⟩ = beB 1 1 ++ shB k ++ shB v:=by simp [layB]
      rw [e] at hQ
      repeat' (with_reducible first|refine Wx.h ?_|refine Wb.h fun K hK=>?_|(refine hK _ ?_;clear hK K)|(refine wT ?_ ?_;assumption)|(refine wF ?_ ?_;assumption)|(refine Wy.h ?_ ?_;kernel_rfl)|refine Wq.h ?_ ?_<;>intro h<;>try (exfalso;omega)|refine Wu.h ?_ ?_<;>intro h<;>try simp only [h]|((fail_if_success refine Wz.h ?_);first|simp (disch:=omega) only [↓LD,LA,loadA_rf,seval,bb_nil]|(refine And.intro ?_ ?_;omega)|simp only [D.int,D.bool]))
      refine callW_emb c_oc_NewWriter [] (by kernel_rfl) rfl rfl ?_
      rintro _ _ ⟨rfl,rfl⟩
      simp (disch:=omega) only [↓LD,LA,loadA_rf,seval,ren,List.getElem?_nil]
      repeat' (with_reducible first|refine Wx.h ?_|refine Wb.h fun K hK=>?_|(refine hK _ ?_;clear hK K)|(refine wT ?_ ?_;assumption)|(refine wF ?_ ?_;assumption)|(refine Wy.h ?_ ?_;kernel_rfl)|refine Wq.h ?_ ?_<;>intro h<;>try (exfalso;omega)|refine Wu.h ?_ ?_<;>intro h<;>try simp only [h]|((fail_if_success refine Wz.h ?_);first|simp (disch:=omega) only [↓LD,LA,loadA_rf,seval]|(refine And.intro ?_ ?_;omega)|simp only [D.int,D.bool]))
      refine callW_emb (c_oc_WU8n 1 (by decide)) [1] (by kernel_rfl) rfl rfl ?_
      rintro _ _ ⟨rfl,rfl⟩
      simp (disch:=omega) only [↓LD,LA,loadA_rf,seval,ren,List.getElem?_nil,wB,dW]
      repeat' (with_reducible first|refine Wx.h ?_|refine Wb.h fun K hK=>?_|(refine hK _ ?_;clear hK K)|(refine wT ?_ ?_;assumption)|(refine wF ?_ ?_;assumption)|(refine Wy.h ?_ ?_;kernel_rfl)|refine Wq.h ?_ ?_<;>intro h<;>try (exfalso;omega)|refine Wu.h ?_ ?_<;>intro h<;>try simp only [h]|((fail_if_success refine Wz.h ?_);first|simp (disch:=omega) only [↓LD,LA,loadA_rf,seval]|(refine And.intro ?_ ?_;omega)|simp only [D.int,D.bool]))
      refine callW_emb (c_oc_WText (beB 1 1) k (by decide) (by omega)) [1,2] (by kernel_rfl) rfl rfl ?_
      rintro _ _ ⟨rfl,rfl⟩
      simp (disch:=omega) only [↓LD,LA,loadA_rf,seval,ren,List.getElem?_nil,wB,dW]
      repeat' (with_reducible first|refine Wx.h ?_|refine Wb.h fun K hK=>?_|(refine hK _ ?_;clear hK K)|(refine wT ?_ ?_;assumption)|(refine wF ?_ ?_;assumption)|(refine Wy.h ?_ ?_;kernel_rfl)|refine Wq.h ?_ ?_<;>intro h<;>try (exfalso;omega)|refine Wu.h ?_ ?_<;>intro h<;>try simp only [h]|((fail_if_success refine Wz.h ?_);first|simp (disch:=omega) only [↓LD,LA,loadA_rf,seval]|(refine And.intro ?_ ?_;omega)|simp only [D.int,D.bool]))
      refine callW_emb (c_oc_WShort (beB 1 1 ++ shB k) v (by simp [shB,beB_len];omega) (by omega)) [1,3] (by kernel_rfl) rfl rfl ?_
      rintro _ _ ⟨rfl,rfl⟩
      simp (disch:=omega) only [↓LD,LA,loadA_rf,seval,ren,List.getElem?_nil,wB,dW]
      repeat' (with_reducible first|refine Wx.h ?_|refine Wb.h fun K hK=>?_|(refine hK _ ?_;clear hK K)|(refine wT ?_ ?_;assumption)|(refine wF ?_ ?_;assumption)|(refine Wy.h ?_ ?_;kernel_rfl)|refine Wq.h ?_ ?_<;>intro h<;>try (exfalso;omega)|refine Wu.h ?_ ?_<;>intro h<;>try simp only [h]|((fail_if_success refine Wz.h ?_);first|simp (disch:=omega) only [↓LD,LA,loadA_rf,seval]|(refine And.intro ?_ ?_;omega)|simp only [D.int,D.bool]))
      refine callW_emb (c_oc_Bytes (beB 1 1 ++ shB k ++ shB v) (by simp [shB,beB_len];omega)) [1,4] (by kernel_rfl) rfl rfl ?_
      rintro _ _ ⟨rfl,rfl⟩
      simp (disch:=omega) only [↓LD,LA,loadA_rf,seval,ren,List.getElem?_nil,wB,dW]
      repeat' (with_reducible first|refine Wx.h ?_|refine Wb.h fun K hK=>?_|(refine hK _ ?_;clear hK K)|(refine wT ?_ ?_;assumption)|(refine wF ?_ ?_;assumption)|(refine Wy.h ?_ ?_;kernel_rfl)|refine Wq.h ?_ ?_<;>intro h<;>try (exfalso;omega)|refine Wu.h ?_ ?_<;>intro h<;>try simp only [h]|((fail_if_success refine Wz.h ?_);first|simp (disch:=omega) only [↓LD,LA,loadA_rf,seval]|(refine And.intro ?_ ?_;omega)|simp only [D.int,D.bool]))
      exact RetS.still (ds:=[.f (fY (beB 1 1 ++ shB k ++ shB v)),D.int 0]) (by kernel_rfl) (by kernel_rfl) (.tps (.cons .f (.cons .f .nil))) hQ
set_option maxRecDepth 100000 in
theorem c_rk_Lay (c : Ch7) : Con Tryz.prog 34 [chD c] [] fun r H'=>r = .tp [.f (fY (layC c).1),D.int (layC c).2] ∧ H' = []:=by
  suffices hh : ∀ Q : D → List Row → Prop,Q (.tp [.f (fY (layC c).1),D.int (layC c).2]) [] → Con Tryz.prog 34 [chD c] [] Q from hh _ ⟨rfl,rfl⟩
  intro Q hQ
  obtain ⟨k,has,v⟩:=c
  refine Con.walk good fn_rk_Lay (by simp) ?_
  unfold s_rk_Lay
  simp only [argsE]
  by_cases hb : badC ⟨k,has,v⟩
  · rw [layC,if_pos hb] at hQ
    simp only [badC] at hb
    cases has
    all_goals
      repeat' (with_reducible first|refine Wx.h ?_|refine Wb.h fun K hK=>?_|(refine hK _ ?_;clear hK K)|(refine wT ?_ ?_;assumption)|(refine wF ?_ ?_;assumption)|(refine Wy.h ?_ ?_;kernel_rfl)|refine Wq.h ?_ ?_<;>intro h<;>try (exfalso;omega)|refine Wu.h ?_ ?_<;>intro h<;>try simp only [h]|((fail_if_success refine Wz.h ?_);first|simp (disch:=omega) only [↓LD,LA,loadA_rf,seval,bb_nil]|(refine And.intro ?_ ?_;omega)|simp only [D.int,D.bool]))
      all_goals first
        | exact RetS.still (ds:=[jN,D.int 1]) (by kernel_rfl) (by kernel_rfl) (.tps (.cons .nil (.cons .f .nil))) hQ
        | (exfalso;rcases hb with hb|hb|hb|⟨hb,hb2⟩<;>first|contradiction|omega|(have h9:=congrArg List.length hb;rw [List.length_nil] at h9;omega))
  · rw [layC,if_neg hb] at hQ
    simp only [badC,not_or] at hb
    obtain ⟨g1,g2,g3,g4⟩:=hb
    have g1' : ¬ (k.length : Int) < 1:=fun h=>g1 (List.eq_nil_of_length_eq_zero (by omega))
    have g2' : ¬ 255 < (k.length : Int):=by omega
    have g3' : ¬ 65535 < (v.length : Int):=by omega
    cases has
    · have g5 : v.length = 0:=by simpa using g4
      obtain rfl:=List.eq_nil_of_length_eq_zero g5
      have e : layB ⟨k,false,[]⟩ = beB 1 0 ++ shB k:=by simp [layB]
      rw [e] at hQ
      repeat' (with_reducible first|refine Wx.h ?_|refine Wb.h fun K hK=>?_|(refine hK _ ?_;clear hK K)|(refine wT ?_ ?_;assumption)|(refine wF ?_ ?_;assumption)|(refine Wy.h ?_ ?_;kernel_rfl)|refine Wq.h ?_ ?_<;>intro h<;>try (exfalso;omega)|refine Wu.h ?_ ?_<;>intro h<;>try simp only [h]|((fail_if_success refine Wz.h ?_);first|simp (disch:=omega) only [↓LD,LA,loadA_rf,seval,bb_nil]|(refine And.intro ?_ ?_;omega)|simp only [D.int,D.bool]))
      refine callW_emb (c_ro_WU8n 0 (by decide)) [1] (by kernel_rfl) rfl rfl ?_
      rintro _ _ ⟨rfl,rfl⟩
      simp (disch:=omega) only [↓LD,LA,loadA_rf,seval,ren,List.getElem?_nil,wB,dW]
      repeat' (with_reducible first|refine Wx.h ?_|refine Wb.h fun K hK=>?_|(refine hK _ ?_;clear hK K)|(refine wT ?_ ?_;assumption)|(refine wF ?_ ?_;assumption)|(refine Wy.h ?_ ?_;kernel_rfl)|refine Wq.h ?_ ?_<;>intro h<;>try (exfalso;omega)|refine Wu.h ?_ ?_<;>intro h<;>try simp only [h]|((fail_if_success refine Wz.h ?_);first|simp (disch:=omega) only [↓LD,LA,loadA_rf,seval]|(refine And.intro ?_ ?_;omega)|simp only [D.int,D.bool]))
      refine callW_emb (c_ro_WText (beB 1 0) k (by decide) (by omega)) [1,2] (by kernel_rfl) rfl rfl ?_
      rintro _ _ ⟨rfl,rfl⟩
      simp (disch:=omega) only [↓LD,LA,loadA_rf,seval,ren,List.getElem?_nil,wB,dW]
      repeat' (with_reducible first|refine Wx.h ?_|refine Wb.h fun K hK=>?_|(refine hK _ ?_;clear hK K)|(refine wT ?_ ?_;assumption)|(refine wF ?_ ?_;assumption)|(refine Wy.h ?_ ?_;kernel_rfl)|refine Wq.h ?_ ?_<;>intro h<;>try (exfalso;omega)|refine Wu.h ?_ ?_<;>intro h<;>try simp only [h]|((fail_if_success refine Wz.h ?_);first|simp (disch:=omega) only [↓LD,LA,loadA_rf,seval]|(refine And.intro ?_ ?_;omega)|simp only [D.int,D.bool]))
      exact RetS.still (ds:=[.sl 3 0 (beB 1 0 ++ shB k).length,D.int 0]) (by kernel_rfl) (by kernel_rfl) (.tps (.cons (.sl (T:=5) (xs:=(beB 1 0 ++ shB k).map uF) rfl (fun e=>by simp [shB,beB_len] at e)) (.cons .f .nil))) hQ
    · have e : layB ⟨k,true,v⟩ = beB 1 1 ++ shB k ++ shB v:=by simp [layB]
      rw [e] at hQ
      repeat' (with_reducible first|refine Wx.h ?_|refine Wb.h fun K hK=>?_|(refine hK _ ?_;clear hK K)|(refine wT ?_ ?_;assumption)|(refine wF ?_ ?_;assumption)|(refine Wy.h ?_ ?_;kernel_rfl)|refine Wq.h ?_ ?_<;>intro h<;>try (exfalso;omega)|refine Wu.h ?_ ?_<;>intro h<;>try simp only [h]|((fail_if_success refine Wz.h ?_);first|simp (disch:=omega) only [↓LD,LA,loadA_rf,seval,bb_nil]|(refine And.intro ?_ ?_;omega)|simp only [D.int,D.bool]))
      refine callW_emb (c_ro_WU8n 1 (by decide)) [1] (by kernel_rfl) rfl rfl ?_
      rintro _ _ ⟨rfl,rfl⟩
      simp (disch:=omega) only [↓LD,LA,loadA_rf,seval,ren,List.getElem?_nil,wB,dW]
      repeat' (with_reducible first|refine Wx.h ?_|refine Wb.h fun K hK=>?_|(refine hK _ ?_;clear hK K)|(refine wT ?_ ?_;assumption)|(refine wF ?_ ?_;assumption)|(refine Wy.h ?_ ?_;kernel_rfl)|refine Wq.h ?_ ?_<;>intro h<;>try (exfalso;omega)|refine Wu.h ?_ ?_<;>intro h<;>try simp only [h]|((fail_if_success refine Wz.h ?_);first|simp (disch:=omega) only [↓LD,LA,loadA_rf,seval]|(refine And.intro ?_ ?_;omega)|simp only [D.int,D.bool]))
      refine callW_emb (c_ro_WText (beB 1 1) k (by decide) (by omega)) [1,2] (by kernel_rfl) rfl rfl ?_
      rintro _ _ ⟨rfl,rfl⟩
      simp (disch:=omega) only [↓LD,LA,loadA_rf,seval,ren,List.getElem?_nil,wB,dW]
      repeat' (with_reducible first|refine Wx.h ?_|refine Wb.h fun K hK=>?_|(refine hK _ ?_;clear hK K)|(refine wT ?_ ?_;assumption)|(refine wF ?_ ?_;assumption)|(refine Wy.h ?_ ?_;kernel_rfl)|refine Wq.h ?_ ?_<;>intro h<;>try (exfalso;omega)|refine Wu.h ?_ ?_<;>intro h<;>try simp only [h]|((fail_if_success refine Wz.h ?_);first|simp (disch:=omega) only [↓LD,LA,loadA_rf,seval]|(refine And.intro ?_ ?_;omega)|simp only [D.int,D.bool]))
      refine callW_emb (c_ro_WShort (beB 1 1 ++ shB k) v (by simp [shB,beB_len];omega) (by omega)) [1,3] (by kernel_rfl) rfl rfl ?_
      rintro _ _ ⟨rfl,rfl⟩
      simp (disch:=omega) only [↓LD,LA,loadA_rf,seval,ren,List.getElem?_nil,wB,dW]
      repeat' (with_reducible first|refine Wx.h ?_|refine Wb.h fun K hK=>?_|(refine hK _ ?_;clear hK K)|(refine wT ?_ ?_;assumption)|(refine wF ?_ ?_;assumption)|(refine Wy.h ?_ ?_;kernel_rfl)|refine Wq.h ?_ ?_<;>intro h<;>try (exfalso;omega)|refine Wu.h ?_ ?_<;>intro h<;>try simp only [h]|((fail_if_success refine Wz.h ?_);first|simp (disch:=omega) only [↓LD,LA,loadA_rf,seval]|(refine And.intro ?_ ?_;omega)|simp only [D.int,D.bool]))
      exact RetS.still (ds:=[.sl 4 0 (beB 1 1 ++ shB k ++ shB v).length,D.int 0]) (by kernel_rfl) (by kernel_rfl) (.tps (.cons (.sl (T:=5) (xs:=(beB 1 1 ++ shB k ++ shB v).map uF) rfl (fun e=>by simp [shB,beB_len] at e)) (.cons .f .nil))) hQ
def s_by_Equal : SCode :=
  (jq ([.a 4 (.mv kF)]) (.seq (jq ([jm 6 0,je 7 6,jm 8 1,je 9 8,jB 10 .neq 7 9]) (jc 10 (jq ([.a 4 (.mv kF)]) .ret) .skip)) (.seq (jq ([jm 11 0,je
 12 11,jk 13 0]) (.block 0 (.loop (jq ([jB 14 .lss 13 12]) (.seq (jc 14 .skip (.exit 0)) (.seq (.block 1 (jq ([jm 15 13,jm 5 15]) (.seq (.drw [jm 16
 0,jm 17 5,jx 18 1 16 17,jl 19 18,jm 20 1,jm 21 5,jx 22 1 20 21,jl 23 22,jB 24 .neq 19 23] [0,0,3,7,0,0,48,112,255]) (jc 24 (jq ([.a 4
 (.mv kF)]) .ret) .skip)))) (.ops [jb 25 .add 13 1,jm 13 25]))))))) (jq ([.a 4 (.mv kT)]) .ret))))
theorem fn_by_Equal : Fn Tryz.prog 85 26 [.t 4] s_by_Equal:=.of Tryz.func85 (by kernel_rfl)
set_option maxHeartbeats 2000000
theorem take_stepB {α : Type} [Inhabited α] {a b : List α} {i : Nat} (hl : (a.length : Int) = b.length) (hi : i < a.length) (h : a.take i = b.take i) (e : gt a i = gt b i) : a.take (i + 1) = b.take (i + 1):=by
  rw [List.take_succ_eq_append_getElem hi,List.take_succ_eq_append_getElem (by omega),h,← gt_eq hi,← gt_eq (by omega),e]
set_option maxRecDepth 100000 in
theorem c_by_Equal (a b : Bs) (ha : a.length ≤ 140737488355328) : Con Tryz.prog 85 [.f (fY a),.f (fY b)] [] fun r H'=>r = D.bool (decide (a = b)) ∧ H' = []:=by
  refine Con.walk good fn_by_Equal (by simp) ?_
  unfold s_by_Equal
  simp only [argsE]
  by_cases hlm : (a.length : Int) = b.length
  rotate_left
  · repeat' (with_reducible first|refine Wx.h ?_|refine Wb.h fun K hK=>?_|(refine hK _ ?_;clear hK K)|(refine wT ?_ ?_;assumption)|(refine wF ?_ ?_;assumption)|(refine Wy.h ?_ ?_;kernel_rfl)|refine Wq.h ?_ ?_<;>intro h<;>try (exfalso;omega)|refine Wu.h ?_ ?_<;>intro h<;>try simp only [h]|((fail_if_success refine Wz.h ?_);first|simp (disch:=omega) only [↓LD,LA,loadA_rf,seval]|(refine And.intro ?_ ?_;omega)|simp only [D.int,D.bool]))
    rw [decide_eq_false (fun e=>hlm (by rw [e]))]
    exact end1 rfl rfl (by kernel_rfl) .f ⟨rfl,rfl⟩
  repeat' (with_reducible first|refine Wx.h ?_|refine Wb.h fun K hK=>?_|(refine hK _ ?_;clear hK K)|(refine wT ?_ ?_;assumption)|(refine wF ?_ ?_;assumption)|(refine Wy.h ?_ ?_;kernel_rfl)|refine Wq.h ?_ ?_<;>intro h<;>try (exfalso;omega)|refine Wu.h ?_ ?_<;>intro h<;>try simp only [h]|((fail_if_success refine Wz.h ?_);first|simp (disch:=omega) only [↓LD,LA,loadA_rf,seval]|(refine And.intro ?_ ?_;omega)|simp only [D.int,D.bool]))
  refine HS.loopG [0,1,12,13] (fun i : Nat=>⟨frm 26 [(0,.f (fY a)),(1,.f (fY b)),(12,D.int a.length),(13,D.int i)],[],[]⟩) (fun i=>i ≤ a.length ∧ a.take i = b.take i) (fun i=>a.length - i) 0 (by kernel_rfl) ⟨Nat.zero_le _,rfl⟩ ?_
  rintro i ⟨hi,ht⟩
  by_cases hil : i < a.length
  · have hil2 : i < b.length:=by omega
    by_cases e : gt a i = gt b i
    · repeat' (with_reducible first|refine Wx.h ?_|refine We.h fun K hK=>?_|refine Wd.h fun K M hK hM=>?_|(refine hK _ _ _ _ ?_;clear hK K;try clear hM M)|(refine hM ?_;clear hM M;try clear hK K)|refine Wb.h fun K hK=>?_|(refine hK _ ?_;clear hK K)|(refine wT ?_ ?_;assumption)|(refine wF ?_ ?_;assumption)|(refine Wy.h ?_ ?_;kernel_rfl)|refine Wq.h ?_ ?_<;>intro h<;>try (exfalso;omega)|refine Wu.h ?_ ?_<;>intro h<;>try simp only [h]|((fail_if_success refine Wz.h ?_);first|simp (disch:=omega) only [↓LD,LA,loadA_rf,seval,e]|(refine And.intro ?_ ?_;omega)|simp only [D.int,D.bool]))
      exact Next.mk (i + 1) (by kernel_rfl) ⟨by omega,take_stepB hlm hil ht e⟩ (by omega)
    · have e2 : ¬ ((gt a i).toNat : Int) = ((gt b i).toNat : Int):=fun h=>e (UInt8.toNat_inj.1 (by omega))
      repeat' (with_reducible first|refine Wx.h ?_|refine We.h fun K hK=>?_|refine Wd.h fun K M hK hM=>?_|(refine hK _ _ _ _ ?_;clear hK K;try clear hM M)|(refine hM ?_;clear hM M;try clear hK K)|refine Wb.h fun K hK=>?_|(refine hK _ ?_;clear hK K)|(refine wT ?_ ?_;assumption)|(refine wF ?_ ?_;assumption)|(refine Wy.h ?_ ?_;kernel_rfl)|refine Wq.h ?_ ?_<;>intro h<;>try (exfalso;omega)|refine Wu.h ?_ ?_<;>intro h<;>try simp only [h]|((fail_if_success refine Wz.h ?_);first|simp (disch:=omega) only [↓LD,LA,loadA_rf,seval]|(refine And.intro ?_ ?_;omega)|simp only [D.int,D.bool]))
      rw [decide_eq_false (fun h=>e (by rw [h]))]
      exact end1 rfl rfl (by kernel_rfl) .f ⟨rfl,rfl⟩
  · repeat' (with_reducible first|refine Wx.h ?_|refine Wb.h fun K hK=>?_|(refine hK _ ?_;clear hK K)|(refine wT ?_ ?_;assumption)|(refine wF ?_ ?_;assumption)|(refine Wy.h ?_ ?_;kernel_rfl)|refine Wq.h ?_ ?_<;>intro h<;>try (exfalso;omega)|refine Wu.h ?_ ?_<;>intro h<;>try simp only [h]|((fail_if_success refine Wz.h ?_);first|simp (disch:=omega) only [↓LD,LA,loadA_rf,seval]|(refine And.intro ?_ ?_;omega)|simp only [D.int,D.bool]))
    rw [List.take_of_length_le (by omega),List.take_of_length_le (by omega)] at ht
    rw [decide_eq_true ht]
    exact end1 rfl rfl (by kernel_rfl) .f ⟨rfl,rfl⟩
def parC (z : Bs) : Ch7 :=
  let s1:=rawR 1 z false
  let s2:=shR s1.2.1 s1.2.2
  ⟨s2.1,decide (beN s1.1 = 1),if beN s1.1 = 1 then (shR s2.2.1 s2.2.2).1 else []⟩
def readC (z : Bs) : Ch7 × Int:=if (layC (parC z)).2 = 0 ∧ (layC (parC z)).1 = z then (parC z,0) else (⟨[],false,[]⟩,5)
theorem layC_len (c : Ch7) : (layC c).1.length ≤ 100000:=by
  unfold layC
  split
  · simp
  · rename_i h
    simp only [badC,not_or] at h
    obtain ⟨_,h2,h3,_⟩:=h
    unfold layB shB
    simp only [List.length_append,beB_len]
    split<;>simp [beB_len]<;>omega
instance {a b : Bs} {H : List Row} {K : D → List Row → Prop} [ha : Kn (a.length ≤ 140737488355328)] : Wa (callW Tryz.prog (.fn 85 []) [.f (fY a),.f (fY b)] H K) (K (.f (.v (.bool (decide (a = b))))) H):=⟨fun h=>callW_pure (c_by_Equal a b ha.h) rfl rfl rfl h⟩
theorem shR_le {b : Bs} {k : Bool} : (shR b k).2.1.length ≤ b.length:=Nat.le_trans rawR_le rawR_le
set_option maxRecDepth 100000 in
theorem c_kv_Read (z : Bs) (hz : z.length ≤ 140737488355328) : Con Tryz.prog 35 [.f (fY z)] [] fun r H'=>r = .tp [chD (readC z).1,D.int (readC z).2] ∧ H' = []:=by
  suffices hh : ∀ Q : D → List Row → Prop,Q (.tp [chD (readC z).1,D.int (readC z).2]) [] → Con Tryz.prog 35 [.f (fY z)] [] Q from hh _ ⟨rfl,rfl⟩
  intro Q hQ
  have hl:=@c_kv_Lay
  have hr : readC z = if (layC (parC z)).2 = 0 ∧ (layC (parC z)).1 = z then (parC z,0) else (⟨[],false,[]⟩,5):=rfl
  have hp : parC z = ⟨(shR (rawR 1 z false).2.1 (rawR 1 z false).2.2).1,decide (beN (rawR 1 z false).1 = 1),if beN (rawR 1 z false).1 = 1 then (shR (shR (rawR 1 z false).2.1 (rawR 1 z false).2.2).2.1 (shR (rawR 1 z false).2.1 (rawR 1 z false).2.2).2.2).1 else []⟩:=rfl
  have k1:=rawR_le (n:=1) (b:=z) (k:=false)
  have hc1:=c_oc_RU8 z false hz
  have hc2:=c_oc_RText (rawR 1 z false).2.1 (rawR 1 z false).2.2 (by omega)
  have k2:=shR_le (b:=(rawR 1 z false).2.1) (k:=(rawR 1 z false).2.2)
  have hc3:=c_oc_RShort (shR (rawR 1 z false).2.1 (rawR 1 z false).2.2).2.1 (shR (rawR 1 z false).2.1 (rawR 1 z false).2.2).2.2 (by omega)
  clear k1 k2
  generalize readC z = rd at hQ hr
  generalize parC z = pc at hr hp
  generalize shR (shR (rawR 1 z false).2.1 (rawR 1 z false).2.2).2.1 (shR (rawR 1 z false).2.1 (rawR 1 z false).2.2).2.2 = s3 at hc3 hp
  generalize shR (rawR 1 z false).2.1 (rawR 1 z false).2.2 = s2 at hc2 hc3 hp
  generalize rawR 1 z false = s1 at hc1 hc2 hp
  obtain ⟨a1,b1,l1⟩:=s1
  obtain ⟨a2,b2,l2⟩:=s2
  obtain ⟨a3,b3,l3⟩:=s3
  dsimp only at hc1 hc2 hc3 hp
  refine Con.walk good fn_kv_Read (by simp) ?_
  unfold s_kv_Read
  simp only [argsE]
  repeat' (with_reducible first|refine Wx.h ?_|refine Wb.h fun K hK=>?_|(refine hK _ ?_;clear hK K)|(refine wT ?_ ?_;assumption)|(refine wF ?_ ?_;assumption)|(refine Wy.h ?_ ?_;kernel_rfl)|refine Wq.h ?_ ?_<;>intro h<;>try (exfalso;omega)|refine Wu.h ?_ ?_<;>intro h<;>try simp only [h]|((fail_if_success refine Wz.h ?_);first|simp (disch:=omega) only [↓LD,LA,loadA_rf,seval]|(refine And.intro ?_ ?_;omega)|simp only [D.int,D.bool]))
  refine callW_emb (c_oc_NewReader z hz) [] (by kernel_rfl) rfl rfl ?_
  rintro _ _ ⟨rfl,rfl⟩
  simp (disch:=omega) only [↓LD,LA,loadA_rf,seval,ren,List.getElem?_nil,rdB]
  repeat' (with_reducible first|refine Wx.h ?_|refine Wb.h fun K hK=>?_|(refine hK _ ?_;clear hK K)|(refine wT ?_ ?_;assumption)|(refine wF ?_ ?_;assumption)|(refine Wy.h ?_ ?_;kernel_rfl)|refine Wq.h ?_ ?_<;>intro h<;>try (exfalso;omega)|refine Wu.h ?_ ?_<;>intro h<;>try simp only [h]|((fail_if_success refine Wz.h ?_);first|simp (disch:=omega) only [↓LD,LA,loadA_rf,seval]|(refine And.intro ?_ ?_;omega)|simp only [D.int,D.bool]))
  refine callW_own hc1 rfl rfl (fun _=>rfl) (fun _=>rfl) (fun _=>rfl) (fun _=>rfl) ?_
  simp only [List.set_cons_zero,List.set_cons_succ]
  by_cases hh : beN a1 = 1
  · have hh' : (beN a1 : Int) = 1:=by omega
    rw [if_pos hh,decide_eq_true hh] at hp
    repeat' (with_reducible first|refine Wx.h ?_|refine Wb.h fun K hK=>?_|(refine hK _ ?_;clear hK K)|(refine wT ?_ ?_;assumption)|(refine wF ?_ ?_;assumption)|(refine Wy.h ?_ ?_;kernel_rfl)|refine Wq.h ?_ ?_<;>intro h<;>try (exfalso;omega)|refine Wu.h ?_ ?_<;>intro h<;>try simp only [h]|((fail_if_success refine Wz.h ?_);first|simp (disch:=omega) only [↓LD,LA,loadA_rf,seval]|(refine And.intro ?_ ?_;omega)|simp only [D.int,D.bool]))
    refine callW_own hc2 rfl rfl (fun _=>rfl) (fun _=>rfl) (fun _=>rfl) (fun _=>rfl) ?_
    simp only [List.set_cons_zero,List.set_cons_succ]
    repeat' (with_reducible first|refine Wx.h ?_|refine Wb.h fun K hK=>?_|(refine hK _ ?_;clear hK K)|(refine wT ?_ ?_;assumption)|(refine wF ?_ ?_;assumption)|(refine Wy.h ?_ ?_;kernel_rfl)|refine Wq.h ?_ ?_<;>intro h<;>try (exfalso;omega)|refine Wu.h ?_ ?_<;>intro h<;>try simp only [h]|((fail_if_success refine Wz.h ?_);first|simp (disch:=omega) only [↓LD,LA,loadA_rf,seval]|(refine And.intro ?_ ?_;omega)|simp only [D.int,D.bool]))
    refine callW_own hc3 rfl rfl (fun _=>rfl) (fun _=>rfl) (fun _=>rfl) (fun _=>rfl) ?_
    simp only [List.set_cons_zero,List.set_cons_succ]
    repeat' (with_reducible first|refine Wx.h ?_|refine Wb.h fun K hK=>?_|(refine hK _ ?_;clear hK K)|(refine wT ?_ ?_;assumption)|(refine wF ?_ ?_;assumption)|(refine Wy.h ?_ ?_;kernel_rfl)|refine Wq.h ?_ ?_<;>intro h<;>try (exfalso;omega)|refine Wu.h ?_ ?_<;>intro h<;>try simp only [h]|((fail_if_success refine Wz.h ?_);first|simp (disch:=omega) only [↓LD,LA,loadA_rf,seval]|(refine And.intro ?_ ?_;omega)|simp only [D.int,D.bool]))
    have hl:=hl ⟨a2,true,a3⟩
    have hlen:=layC_len pc
    rw [← hp] at hl
    generalize layC pc = lc at hl hr hlen
    obtain ⟨lb,le⟩:=lc
    dsimp only at hl hr hlen
    subst hp
    haveI : Kn (lb.length ≤ 140737488355328):=⟨by omega⟩
    refine callW_pure hl rfl rfl rfl ?_
    by_cases hle : le = 0
    · by_cases hlz : lb = z
      · rw [if_pos ⟨hle,hlz⟩] at hr
        subst hr hle hlz
        repeat' (with_reducible first|refine Wx.h ?_|refine Wb.h fun K hK=>?_|(refine hK _ ?_;clear hK K)|(refine wT ?_ ?_;assumption)|(refine wF ?_ ?_;assumption)|(refine Wy.h ?_ ?_;kernel_rfl)|refine Wq.h ?_ ?_<;>intro h<;>try (exfalso;omega)|refine Wu.h ?_ ?_<;>intro h<;>try simp only [h]|((fail_if_success refine Wz.h ?_);first|simp (disch:=omega) only [↓LD,LA,loadA_rf,seval,decide_true,bytes_map]|(refine And.intro ?_ ?_;omega)|simp only [D.int,D.bool]))
        exact RetS.still (ds:=[chD ⟨a2,true,a3⟩,D.int 0]) (by kernel_rfl) (by kernel_rfl) (.tps (.cons (.ags (.cons .f (.cons .f (.cons .f .nil)))) (.cons .f .nil))) hQ
      · rw [if_neg (fun h=>hlz h.2)] at hr
        subst hr hle
        have hd : decide (lb = z) = false:=decide_eq_false hlz
        repeat' (with_reducible first|refine Wx.h ?_|refine Wb.h fun K hK=>?_|(refine hK _ ?_;clear hK K)|(refine wT ?_ ?_;assumption)|(refine wF ?_ ?_;assumption)|(refine Wy.h ?_ ?_;kernel_rfl)|refine Wq.h ?_ ?_<;>intro h<;>try (exfalso;omega)|refine Wu.h ?_ ?_<;>intro h<;>try simp only [h]|((fail_if_success refine Wz.h ?_);first|simp (disch:=omega) only [↓LD,LA,loadA_rf,seval,hd,bytes_map,bb_inj]|(refine And.intro ?_ ?_;omega)|simp only [D.int,D.bool]))
        all_goals first|exact absurd (Eq.mp bb_inj h) hlz|exact RetS.still (ds:=[.ag [.f (.v (.string ⟨#[]⟩)),jF,jN],D.int 5]) (by kernel_rfl) (by kernel_rfl) (.tps (.cons (.ags (.cons .f (.cons .f (.cons .nil .nil)))) (.cons .f .nil))) hQ
    · rw [if_neg (fun h=>hle h.1)] at hr
      subst hr
      repeat' (with_reducible first|refine Wx.h ?_|refine Wb.h fun K hK=>?_|(refine hK _ ?_;clear hK K)|(refine wT ?_ ?_;assumption)|(refine wF ?_ ?_;assumption)|(refine Wy.h ?_ ?_;kernel_rfl)|refine Wq.h ?_ ?_<;>intro h<;>try (exfalso;omega)|refine Wu.h ?_ ?_<;>intro h<;>try simp only [h]|((fail_if_success refine Wz.h ?_);first|simp (disch:=omega) only [↓LD,LA,loadA_rf,seval]|(refine And.intro ?_ ?_;omega)|simp only [D.int,D.bool]))
      exact RetS.still (ds:=[.ag [.f (.v (.string ⟨#[]⟩)),jF,jN],D.int 5]) (by kernel_rfl) (by kernel_rfl) (.tps (.cons (.ags (.cons .f (.cons .f (.cons .nil .nil)))) (.cons .f .nil))) hQ
  · have hh' : ¬ (beN a1 : Int) = 1:=by omega
    rw [if_neg hh,decide_eq_false hh] at hp
    repeat' (with_reducible first|refine Wx.h ?_|refine Wb.h fun K hK=>?_|(refine hK _ ?_;clear hK K)|(refine wT ?_ ?_;assumption)|(refine wF ?_ ?_;assumption)|(refine Wy.h ?_ ?_;kernel_rfl)|refine Wq.h ?_ ?_<;>intro h<;>try (exfalso;omega)|refine Wu.h ?_ ?_<;>intro h<;>try simp only [h]|((fail_if_success refine Wz.h ?_);first|simp (disch:=omega) only [↓LD,LA,loadA_rf,seval]|(refine And.intro ?_ ?_;omega)|simp only [D.int,D.bool]))
    refine callW_own hc2 rfl rfl (fun _=>rfl) (fun _=>rfl) (fun _=>rfl) (fun _=>rfl) ?_
    simp only [List.set_cons_zero,List.set_cons_succ]
    repeat' (with_reducible first|refine Wx.h ?_|refine Wb.h fun K hK=>?_|(refine hK _ ?_;clear hK K)|(refine wT ?_ ?_;assumption)|(refine wF ?_ ?_;assumption)|(refine Wy.h ?_ ?_;kernel_rfl)|refine Wq.h ?_ ?_<;>intro h<;>try (exfalso;omega)|refine Wu.h ?_ ?_<;>intro h<;>try simp only [h]|((fail_if_success refine Wz.h ?_);first|simp (disch:=omega) only [↓LD,LA,loadA_rf,seval]|(refine And.intro ?_ ?_;omega)|simp only [D.int,D.bool]))
    have hl:=hl ⟨a2,false,[]⟩
    have hlen:=layC_len pc
    rw [← hp] at hl
    generalize layC pc = lc at hl hr hlen
    obtain ⟨lb,le⟩:=lc
    dsimp only at hl hr hlen
    subst hp
    haveI : Kn (lb.length ≤ 140737488355328):=⟨by omega⟩
    refine callW_less (args0:=[chD ⟨a2,false,[]⟩]) ?_ (by repeat' (first|exact WDs.nil|refine WDs.cons ?_ ?_|exact WD.refl|exact WD.f .ns|exact WD.f .es|refine WD.ags ?_|refine WD.f (WF.ls ?_)|exact WFs.nil|refine WFs.cons ?_ ?_|exact WF.refl|exact WF.ns|exact WF.es))
    refine callW_pure hl rfl rfl rfl ?_
    by_cases hle : le = 0
    · by_cases hlz : lb = z
      · rw [if_pos ⟨hle,hlz⟩] at hr
        subst hr hle hlz
        repeat' (with_reducible first|refine Wx.h ?_|refine Wb.h fun K hK=>?_|(refine hK _ ?_;clear hK K)|(refine wT ?_ ?_;assumption)|(refine wF ?_ ?_;assumption)|(refine Wy.h ?_ ?_;kernel_rfl)|refine Wq.h ?_ ?_<;>intro h<;>try (exfalso;omega)|refine Wu.h ?_ ?_<;>intro h<;>try simp only [h]|((fail_if_success refine Wz.h ?_);first|simp (disch:=omega) only [↓LD,LA,loadA_rf,seval,decide_true,bytes_map]|(refine And.intro ?_ ?_;omega)|simp only [D.int,D.bool]))
        exact RetS.still (ds:=[.ag [.f (.v (.string (BB a2))),jF,jN],D.int 0]) (by kernel_rfl) (by kernel_rfl) (.tps (.cons (.ags (.cons .f (.cons .f (.cons .nil .nil)))) (.cons .f .nil))) hQ
      · rw [if_neg (fun h=>hlz h.2)] at hr
        subst hr hle
        have hd : decide (lb = z) = false:=decide_eq_false hlz
        repeat' (with_reducible first|refine Wx.h ?_|refine Wb.h fun K hK=>?_|(refine hK _ ?_;clear hK K)|(refine wT ?_ ?_;assumption)|(refine wF ?_ ?_;assumption)|(refine Wy.h ?_ ?_;kernel_rfl)|refine Wq.h ?_ ?_<;>intro h<;>try (exfalso;omega)|refine Wu.h ?_ ?_<;>intro h<;>try simp only [h]|((fail_if_success refine Wz.h ?_);first|simp (disch:=omega) only [↓LD,LA,loadA_rf,seval,hd,bytes_map,bb_inj]|(refine And.intro ?_ ?_;omega)|simp only [D.int,D.bool]))
        all_goals first|exact absurd (Eq.mp bb_inj h) hlz|exact RetS.still (ds:=[.ag [.f (.v (.string ⟨#[]⟩)),jF,jN],D.int 5]) (by kernel_rfl) (by kernel_rfl) (.tps (.cons (.ags (.cons .f (.cons .f (.cons .nil .nil)))) (.cons .f .nil))) hQ
    · rw [if_neg (fun h=>hle h.1)] at hr
      subst hr
      repeat' (with_reducible first|refine Wx.h ?_|refine Wb.h fun K hK=>?_|(refine hK _ ?_;clear hK K)|(refine wT ?_ ?_;assumption)|(refine wF ?_ ?_;assumption)|(refine Wy.h ?_ ?_;kernel_rfl)|refine Wq.h ?_ ?_<;>intro h<;>try (exfalso;omega)|refine Wu.h ?_ ?_<;>intro h<;>try simp only [h]|((fail_if_success refine Wz.h ?_);first|simp (disch:=omega) only [↓LD,LA,loadA_rf,seval]|(refine And.intro ?_ ?_;omega)|simp only [D.int,D.bool]))
      exact RetS.still (ds:=[.ag [.f (.v (.string ⟨#[]⟩)),jF,jN],D.int 5]) (by kernel_rfl) (by kernel_rfl) (.tps (.cons (.ags (.cons .f (.cons .f (.cons .nil .nil)))) (.cons .f .nil))) hQ
set_option maxRecDepth 100000 in
theorem c_rk_Read (z : Bs) (hz : z.length ≤ 140737488355328) : Con Tryz.prog 36 [.f (fY z)] [] fun r H'=>r = .tp [chD (readC z).1,D.int (readC z).2] ∧ H' = []:=by
  suffices hh : ∀ Q : D → List Row → Prop,Q (.tp [chD (readC z).1,D.int (readC z).2]) [] → Con Tryz.prog 36 [.f (fY z)] [] Q from hh _ ⟨rfl,rfl⟩
  intro Q hQ
  have hl:=@c_rk_Lay
  have hr : readC z = if (layC (parC z)).2 = 0 ∧ (layC (parC z)).1 = z then (parC z,0) else (⟨[],false,[]⟩,5):=rfl
  have hp : parC z = ⟨(shR (rawR 1 z false).2.1 (rawR 1 z false).2.2).1,decide (beN (rawR 1 z false).1 = 1),if beN (rawR 1 z false).1 = 1 then (shR (shR (rawR 1 z false).2.1 (rawR 1 z false).2.2).2.1 (shR (rawR 1 z false).2.1 (rawR 1 z false).2.2).2.2).1 else []⟩:=rfl
  have k1:=rawR_le (n:=1) (b:=z) (k:=false)
  have hc1:=c_ro_RU8 z false hz
  have hc2:=c_ro_RText (rawR 1 z false).2.1 (rawR 1 z false).2.2 (by omega)
  have k2:=shR_le (b:=(rawR 1 z false).2.1) (k:=(rawR 1 z false).2.2)
  have hc3:=c_ro_RShort (shR (rawR 1 z false).2.1 (rawR 1 z false).2.2).2.1 (shR (rawR 1 z false).2.1 (rawR 1 z false).2.2).2.2 (by omega)
  clear k1 k2
  generalize readC z = rd at hQ hr
  generalize parC z = pc at hr hp
  generalize shR (shR (rawR 1 z false).2.1 (rawR 1 z false).2.2).2.1 (shR (rawR 1 z false).2.1 (rawR 1 z false).2.2).2.2 = s3 at hc3 hp
  generalize shR (rawR 1 z false).2.1 (rawR 1 z false).2.2 = s2 at hc2 hc3 hp
  generalize rawR 1 z false = s1 at hc1 hc2 hp
  obtain ⟨a1,b1,l1⟩:=s1
  obtain ⟨a2,b2,l2⟩:=s2
  obtain ⟨a3,b3,l3⟩:=s3
  dsimp only at hc1 hc2 hc3 hp
  refine Con.walk good fn_rk_Read (by simp) ?_
  unfold s_rk_Read
  simp only [argsE]
  repeat' (with_reducible first|refine Wx.h ?_|refine Wb.h fun K hK=>?_|(refine hK _ ?_;clear hK K)|(refine wT ?_ ?_;assumption)|(refine wF ?_ ?_;assumption)|(refine Wy.h ?_ ?_;kernel_rfl)|refine Wq.h ?_ ?_<;>intro h<;>try (exfalso;omega)|refine Wu.h ?_ ?_<;>intro h<;>try simp only [h]|((fail_if_success refine Wz.h ?_);first|simp (disch:=omega) only [↓LD,LA,loadA_rf,seval]|(refine And.intro ?_ ?_;omega)|simp only [D.int,D.bool]))
  refine callW_own hc1 rfl rfl (fun _=>rfl) (fun _=>rfl) (fun _=>rfl) (fun _=>rfl) ?_
  simp only [List.set_cons_zero,List.set_cons_succ]
  by_cases hh : beN a1 = 1
  · have hh' : (beN a1 : Int) = 1:=by omega
    rw [if_pos hh,decide_eq_true hh] at hp
    repeat' (with_reducible first|refine Wx.h ?_|refine Wb.h fun K hK=>?_|(refine hK _ ?_;clear hK K)|(refine wT ?_ ?_;assumption)|(refine wF ?_ ?_;assumption)|(refine Wy.h ?_ ?_;kernel_rfl)|refine Wq.h ?_ ?_<;>intro h<;>try (exfalso;omega)|refine Wu.h ?_ ?_<;>intro h<;>try simp only [h]|((fail_if_success refine Wz.h ?_);first|simp (disch:=omega) only [↓LD,LA,loadA_rf,seval]|(refine And.intro ?_ ?_;omega)|simp only [D.int,D.bool]))
    refine callW_own hc2 rfl rfl (fun _=>rfl) (fun _=>rfl) (fun _=>rfl) (fun _=>rfl) ?_
    simp only [List.set_cons_zero,List.set_cons_succ]
    repeat' (with_reducible first|refine Wx.h ?_|refine Wb.h fun K hK=>?_|(refine hK _ ?_;clear hK K)|(refine wT ?_ ?_;assumption)|(refine wF ?_ ?_;assumption)|(refine Wy.h ?_ ?_;kernel_rfl)|refine Wq.h ?_ ?_<;>intro h<;>try (exfalso;omega)|refine Wu.h ?_ ?_<;>intro h<;>try simp only [h]|((fail_if_success refine Wz.h ?_);first|simp (disch:=omega) only [↓LD,LA,loadA_rf,seval]|(refine And.intro ?_ ?_;omega)|simp only [D.int,D.bool]))
    refine callW_own hc3 rfl rfl (fun _=>rfl) (fun _=>rfl) (fun _=>rfl) (fun _=>rfl) ?_
    simp only [List.set_cons_zero,List.set_cons_succ]
    repeat' (with_reducible first|refine Wx.h ?_|refine Wb.h fun K hK=>?_|(refine hK _ ?_;clear hK K)|(refine wT ?_ ?_;assumption)|(refine wF ?_ ?_;assumption)|(refine Wy.h ?_ ?_;kernel_rfl)|refine Wq.h ?_ ?_<;>intro h<;>try (exfalso;omega)|refine Wu.h ?_ ?_<;>intro h<;>try simp only [h]|((fail_if_success refine Wz.h ?_);first|simp (disch:=omega) only [↓LD,LA,loadA_rf,seval]|(refine And.intro ?_ ?_;omega)|simp only [D.int,D.bool]))
    have hl:=hl ⟨a2,true,a3⟩
    have hlen:=layC_len pc
    rw [← hp] at hl
    generalize layC pc = lc at hl hr hlen
    obtain ⟨lb,le⟩:=lc
    dsimp only at hl hr hlen
    subst hp
    haveI : Kn (lb.length ≤ 140737488355328):=⟨by omega⟩
    refine callW_pure hl rfl rfl rfl ?_
    by_cases hle : le = 0
    · by_cases hlz : lb = z
      · rw [if_pos ⟨hle,hlz⟩] at hr
        subst hr hle hlz
        repeat' (with_reducible first|refine Wx.h ?_|refine Wb.h fun K hK=>?_|(refine hK _ ?_;clear hK K)|(refine wT ?_ ?_;assumption)|(refine wF ?_ ?_;assumption)|(refine Wy.h ?_ ?_;kernel_rfl)|refine Wq.h ?_ ?_<;>intro h<;>try (exfalso;omega)|refine Wu.h ?_ ?_<;>intro h<;>try simp only [h]|((fail_if_success refine Wz.h ?_);first|simp (disch:=omega) only [↓LD,LA,loadA_rf,seval,decide_true,bytes_map]|(refine And.intro ?_ ?_;omega)|simp only [D.int,D.bool]))
        exact RetS.still (ds:=[chD ⟨a2,true,a3⟩,D.int 0]) (by kernel_rfl) (by kernel_rfl) (.tps (.cons (.ags (.cons .f (.cons .f (.cons .f .nil)))) (.cons .f .nil))) hQ
      · rw [if_neg (fun h=>hlz h.2)] at hr
        subst hr hle
        have hd : decide (lb = z) = false:=decide_eq_false hlz
        repeat' (with_reducible first|refine Wx.h ?_|refine Wb.h fun K hK=>?_|(refine hK _ ?_;clear hK K)|(refine wT ?_ ?_;assumption)|(refine wF ?_ ?_;assumption)|(refine Wy.h ?_ ?_;kernel_rfl)|refine Wq.h ?_ ?_<;>intro h<;>try (exfalso;omega)|refine Wu.h ?_ ?_<;>intro h<;>try simp only [h]|((fail_if_success refine Wz.h ?_);first|simp (disch:=omega) only [↓LD,LA,loadA_rf,seval,hd,bytes_map,bb_inj]|(refine And.intro ?_ ?_;omega)|simp only [D.int,D.bool]))
        all_goals first|exact absurd (Eq.mp bb_inj h) hlz|exact RetS.still (ds:=[.ag [.f (.v (.string ⟨#[]⟩)),jF,jN],D.int 5]) (by kernel_rfl) (by kernel_rfl) (.tps (.cons (.ags (.cons .f (.cons .f (.cons .nil .nil)))) (.cons .f .nil))) hQ
    · rw [if_neg (fun h=>hle h.1)] at hr
      subst hr
      repeat' (with_reducible first|refine Wx.h ?_|refine Wb.h fun K hK=>?_|(refine hK _ ?_;clear hK K)|(refine wT ?_ ?_;assumption)|(refine wF ?_ ?_;assumption)|(refine Wy.h ?_ ?_;kernel_rfl)|refine Wq.h ?_ ?_<;>intro h<;>try (exfalso;omega)|refine Wu.h ?_ ?_<;>intro h<;>try simp only [h]|((fail_if_success refine Wz.h ?_);first|simp (disch:=omega) only [↓LD,LA,loadA_rf,seval]|(refine And.intro ?_ ?_;omega)|simp only [D.int,D.bool]))
      exact RetS.still (ds:=[.ag [.f (.v (.string ⟨#[]⟩)),jF,jN],D.int 5]) (by kernel_rfl) (by kernel_rfl) (.tps (.cons (.ags (.cons .f (.cons .f (.cons .nil .nil)))) (.cons .f .nil))) hQ
  · have hh' : ¬ (beN a1 : Int) = 1:=by omega
    rw [if_neg hh,decide_eq_false hh] at hp
    repeat' (with_reducible first|refine Wx.h ?_|refine Wb.h fun K hK=>?_|(refine hK _ ?_;clear hK K)|(refine wT ?_ ?_;assumption)|(refine wF ?_ ?_;assumption)|(refine Wy.h ?_ ?_;kernel_rfl)|refine Wq.h ?_ ?_<;>intro h<;>try (exfalso;omega)|refine Wu.h ?_ ?_<;>intro h<;>try simp only [h]|((fail_if_success refine Wz.h ?_);first|simp (disch:=omega) only [↓LD,LA,loadA_rf,seval]|(refine And.intro ?_ ?_;omega)|simp only [D.int,D.bool]))
    refine callW_own hc2 rfl rfl (fun _=>rfl) (fun _=>rfl) (fun _=>rfl) (fun _=>rfl) ?_
    simp only [List.set_cons_zero,List.set_cons_succ]
    repeat' (with_reducible first|refine Wx.h ?_|refine Wb.h fun K hK=>?_|(refine hK _ ?_;clear hK K)|(refine wT ?_ ?_;assumption)|(refine wF ?_ ?_;assumption)|(refine Wy.h ?_ ?_;kernel_rfl)|refine Wq.h ?_ ?_<;>intro h<;>try (exfalso;omega)|refine Wu.h ?_ ?_<;>intro h<;>try simp only [h]|((fail_if_success refine Wz.h ?_);first|simp (disch:=omega) only [↓LD,LA,loadA_rf,seval]|(refine And.intro ?_ ?_;omega)|simp only [D.int,D.bool]))
    have hl:=hl ⟨a2,false,[]⟩
    have hlen:=layC_len pc
    rw [← hp] at hl
    generalize layC pc = lc at hl hr hlen
    obtain ⟨lb,le⟩:=lc
    dsimp only at hl hr hlen
    subst hp
    haveI : Kn (lb.length ≤ 140737488355328):=⟨by omega⟩
    refine callW_less (args0:=[chD ⟨a2,false,[]⟩]) ?_ (by repeat' (first|exact WDs.nil|refine WDs.cons ?_ ?_|exact WD.refl|exact WD.f .ns|exact WD.f .es|refine WD.ags ?_|refine WD.f (WF.ls ?_)|exact WFs.nil|refine WFs.cons ?_ ?_|exact WF.refl|exact WF.ns|exact WF.es))
    refine callW_pure hl rfl rfl rfl ?_
    by_cases hle : le = 0
    · by_cases hlz : lb = z
      · rw [if_pos ⟨hle,hlz⟩] at hr
        subst hr hle hlz
        repeat' (with_reducible first|refine Wx.h ?_|refine Wb.h fun K hK=>?_|(refine hK _ ?_;clear hK K)|(refine wT ?_ ?_;assumption)|(refine wF ?_ ?_;assumption)|(refine Wy.h ?_ ?_;kernel_rfl)|refine Wq.h ?_ ?_<;>intro h<;>try (exfalso;omega)|refine Wu.h ?_ ?_<;>intro h<;>try simp only [h]|((fail_if_success refine Wz.h ?_);first|simp (disch:=omega) only [↓LD,LA,loadA_rf,seval,decide_true,bytes_map]|(refine And.intro ?_ ?_;omega)|simp only [D.int,D.bool]))
        exact RetS.still (ds:=[.ag [.f (.v (.string (BB a2))),jF,jN],D.int 0]) (by kernel_rfl) (by kernel_rfl) (.tps (.cons (.ags (.cons .f (.cons .f (.cons .nil .nil)))) (.cons .f .nil))) hQ
      · rw [if_neg (fun h=>hlz h.2)] at hr
        subst hr hle
        have hd : decide (lb = z) = false:=decide_eq_false hlz
        repeat' (with_reducible first|refine Wx.h ?_|refine Wb.h fun K hK=>?_|(refine hK _ ?_;clear hK K)|(refine wT ?_ ?_;assumption)|(refine wF ?_ ?_;assumption)|(refine Wy.h ?_ ?_;kernel_rfl)|refine Wq.h ?_ ?_<;>intro h<;>try (exfalso;omega)|refine Wu.h ?_ ?_<;>intro h<;>try simp only [h]|((fail_if_success refine Wz.h ?_);first|simp (disch:=omega) only [↓LD,LA,loadA_rf,seval,hd,bytes_map,bb_inj]|(refine And.intro ?_ ?_;omega)|simp only [D.int,D.bool]))
        all_goals first|exact absurd (Eq.mp bb_inj h) hlz|exact RetS.still (ds:=[.ag [.f (.v (.string ⟨#[]⟩)),jF,jN],D.int 5]) (by kernel_rfl) (by kernel_rfl) (.tps (.cons (.ags (.cons .f (.cons .f (.cons .nil .nil)))) (.cons .f .nil))) hQ
    · rw [if_neg (fun h=>hle h.1)] at hr
      subst hr
      repeat' (with_reducible first|refine Wx.h ?_|refine Wb.h fun K hK=>?_|(refine hK _ ?_;clear hK K)|(refine wT ?_ ?_;assumption)|(refine wF ?_ ?_;assumption)|(refine Wy.h ?_ ?_;kernel_rfl)|refine Wq.h ?_ ?_<;>intro h<;>try (exfalso;omega)|refine Wu.h ?_ ?_<;>intro h<;>try simp only [h]|((fail_if_success refine Wz.h ?_);first|simp (disch:=omega) only [↓LD,LA,loadA_rf,seval]|(refine And.intro ?_ ?_;omega)|simp only [D.int,D.bool]))
      exact RetS.still (ds:=[.ag [.f (.v (.string ⟨#[]⟩)),jF,jN],D.int 5]) (by kernel_rfl) (by kernel_rfl) (.tps (.cons (.ags (.cons .f (.cons .f (.cons .nil .nil)))) (.cons .f .nil))) hQ
def s_law_kvlist : SCode :=
  (jq ([.a 4 (.mv kN)]) (jq ([.a 5 (.mv kN)]) (.seq (jq ([jk 6 0]) (.block 0 (.loop (.seq (jq ((ap [jm 8 6,jm 9 0,je 10 9,jB 11 .lss 8 10] (ap [jm 12
 11,gM 13 6 12 true] (ap [gM 14 1 12 true,jG 15 (.bin .lss (.t 13) (.t 14)) 12 true] [.a 16 (.pick (.t 12) (.t 15) kF)])))) (jc 16 .skip (.exit 0)))
 (.seq (.block 1 (.seq (.drw [.a 19 (.bld [(.f (.v (.string ⟨#[]⟩))),(.f (.v (.string ⟨#[]⟩))),(.f (.v (.string ⟨#[]⟩))),(.f (.v (.string ⟨#[]⟩))),
 (.f (.v (.string ⟨#[]⟩))),(.f (.v (.string ⟨#[]⟩)))] [(0,1,(.c (.f (.v (.string ⟨#[97]⟩))))),(1,1,(.c (.f (.v (.string ⟨#[98]⟩))))),(2,1,(.c
 (.f (.v (.string ⟨#[97,98]⟩))))),(3,1,(.c (.f (.v (.string ⟨#[99,47,49]⟩))))),(4,1,(.c (.f (.v (.string ⟨#[0]⟩))))),(5,1,(.c (.f (.v
 (.string ⟨#[122,122]⟩)))))]),jm 20 0,jm 21 6,jx 22 3 20 21,jo 23 0 22,jl 24 23,.a 25 (.call (kC 13) [(.t 24),(kI 6)]),.a 26 (.aidx 1 6 (.t 19)
 (.t 25)),jm 27 0,jm 28 6,jx 29 3 27 28,jo 30 1 29,jl 31 30,jb 32 .rem 31 4,jb 33 .gtr 32 0,.a 34 (.bld [(.f (.v (.string ⟨#[]⟩))),jF,jN] [(0,
 1,(.t 26)),(1,1,(.t 33))]),.a 7 (.alloc 58 [(.f (.v (.string ⟨#[]⟩))),jF,jN]),.n (.store 3 (.t 7) (.t 34))] [0,0,0,6,14,30,62,127,0,0,
 768,1792,3840,7936,16128,32767,0,131071]) (.seq (jq ([jo 35 1 7,jl 36 35]) (jc 36 (.ops (ap [jm 37 0,jm 38 6,jx 39 3 37 38,jo 40 2 39,jl 41
 40,.a 42 (.call (kC 14) [(.t 41),(kI 30)])] [jo 43 2 7,.n (.store 1 (.t 43) (.t 42))])) .skip)) (.seq (jq ([jm 44 0,jm 45 6,jx 46 3 44 45,jo 47 1
 46,jl 48 47,jb 49 .rem 48 41,jb 50 .eql 49 40]) (jc 50 (.ops [jo 51 0 7,.n (.store 1 (.t 51) (.c (.f (.v (.string ⟨#[]⟩)))))]) .skip)) (.ops (ap
 [jm 52 5,jL 53 3 7,.a 54 (.bsl 58 3 1 [(.f (.v (.string ⟨#[]⟩))),jF,jN] [(0,(.t 53))]),.a 55 (.app 58 3 48 (.t 52) (.t 54))] [jm 5 55]))))))
 (.ops [jm 17 6,jb 18 .add 17 1,jm 6 18])))))) (jq ([jm 56 5,jm 4 56]) .ret))))
theorem fn_law_kvlist : Fn Tryz.prog 32 57 [.t 4] s_law_kvlist:=.of Tryz.func32 (by kernel_rfl)
def s_law_KvCodes : SCode :=
  (jq ([.a 6 (.box 58 (.t 0)),.a 12 (.mv kF)]) (.seq (jq ((ap [jm 22 3,jb 23 .rem 22 3,jb 24 .gtr 23 0] (ap [jm 25 24,gM 26 2 25 true] (ap [jG 27
 (.slen (.t 26)) 25 true,jG 28 (.bin .gtr (.t 27) (kI 0)) 25 true] [.a 29 (.pick (.t 25) (.t 28) kF)])))) (jc 29 (.ops (ap [jm 30 2,.a 31 (.call (kC
 32) [(.t 30),(kI 1)])] [.a 32 (.idx 3 (.t 31) (kI 0)),jL 33 3 32,.n (.store 3 (.t 6) (.t 33))])) .skip)) (jq ((ap [jL 35 3 6,.a 36 (.call (kC 33)
 [(.t 35)])] [jm 34 36,jE 37 0 34,jE 38 1 34,jm 13 37,jm 14 38])) (jq ((ap [jL 40 3 6,.a 41 (.call (kC 34) [(.t 40)])] [jm 39 41,jE 42 0 39,jE 43
 1 39,jm 15 42,jm 16 43])) (.seq (jq ((ap [jm 44 13,.a 45 (.b2s (.t 44)),jm 46 15,.a 47 (.b2s (.t 46)),jB 48 .neq 45 47] (ap [jm 49 48,gM 50 14
 49 false] (ap [gM 51 16 49 false,jG 52 (.bin .neq (.t 50) (.t 51)) 49 false] [.a 53 (.pick (.t 49) kT (.t 52))])))) (jc 53 (jq ([.a 12 (.mv kF)])
 .ret) .skip)) (jq ((ap [jm 54 1,jm 55 1,je 56 55,.a 57 (.call (kC 14) [(.t 54),(.t 56)])] [jm 17 57])) (.seq (jq ((ap [jm 58 16,jb 59 .eql 58 0]
 (ap [jm 60 59,gM 61 3 60 true] (ap [jG 62 (.bin .rem (.t 61) (kI 5)) 60 true,jG 63 (.bin .gtr (.t 62) (kI 0)) 60 true] [.a 64 (.pick (.t 60) (.t 63)
 kF)])))) (jc 64 (jq ((ap [jm 65 15,jm 66 15,je 67 66,.a 68 (.call (kC 14) [(.t 65),(.t 67)])] [jm 17 68])) (.ops (ap [jm 69 17,jm 70 4,jm 71 17,
 je 72 71,.a 73 (.call (kC 13) [(.t 70),(.t 72)])] [jx 74 1 69 73,jl 75 74,jm 76 5,jB 77 .xor 75 76,jx 78 1 69 73,.n (.store 1 (.t 78) (.t
 77))]))) .skip)) (jq ((ap [jm 80 17,.a 81 (.call (kC 35) [(.t 80)])] [jm 79 81,jE 82 0 79,jE 83 1 79,.a 18 (.alloc 58 [(.f (.v (.string ⟨#[]⟩))),
 jF,jN]),.n (.store 3 (.t 18) (.t 82)),jm 19 83])) (jq ((ap [jm 85 17,.a 86 (.call (kC 36) [(.t 85)])] [jm 84 86,jE 87 0 84,jE 88 1 84,.a 20
 (.alloc 58 [(.f (.v (.string ⟨#[]⟩))),jF,jN]),.n (.store 3 (.t 20) (.t 87)),jm 21 88])) (jq ((ap [.a 89 (.call (kC 37) [])] (ap [jm 90 89,gM 91 19
 90 true] (ap [gM 92 21 90 true,jG 93 (.bin .eql (.t 91) (.t 92)) 90 true] (ap [.a 94 (.pick (.t 90) (.t 93) kF),jm 95 94,gO 96 0 18 95 true] (ap [gL
 97 96 95 true,gO 98 0 20 95 true,gL 99 98 95 true,jG 100 (.bin .eql (.t 97) (.t 99)) 95 true] (ap [.a 101 (.pick (.t 95) (.t 100) kF),jm 102 101,
 gO 103 1 18 102 true] (ap [gL 104 103 102 true,gO 105 1 20 102 true,gL 106 105 102 true,jG 107 (.binb .eql (.t 104) (.t 106)) 102 true,.a 108
 (.pick (.t 102) (.t 107) kF),jm 109 108,gO 110 2 18 109 true] (ap [gL 111 110 109 true,jG 112 (.b2s (.t 111)) 109 true,gO 113 2 20 109 true,gL 114
 113 109 true,jG 115 (.b2s (.t 114)) 109 true,jG 116 (.bin .eql (.t 112) (.t 115)) 109 true] [.a 117 (.pick (.t 109) (.t 116) kF),jm 12 117])))))))))
 .ret))))))))))
theorem fn_law_KvCodes : Fn Tryz.prog 7 118 [.t 12] s_law_KvCodes:=.of Tryz.func7 (by kernel_rfl)
set_option maxHeartbeats 2000000
structure Rk where
  key : Int
  n : Int
  val : Bs
  deriving Inhabited
def Rk.cs (x : Rk) : List F:=[iF x.key,iF x.n,fY x.val]
theorem Rk.cs_len (x : Rk) : x.cs.length = 3:=rfl
def fRk (l : List Rk) : F:=.s (l.flatMap Rk.cs) l.length
theorem slcS_fRk {g : List Rk} : slcS (.f (fRk g)) = some g.length:=id rfl
theorem idxS_fRk {g : List Rk} {sz : Nat} {k : IntKind} {i : Int} {K : D → Prop} : idxS sz (.f (fRk g)) (.f (.v (.int k i))) K = ((0 ≤ i ∧ i < g.length) ∧ K (.rf ((g.flatMap Rk.cs).drop (i.toNat * sz)))):=id rfl
theorem len_fRk {g : List Rk} : (g.flatMap Rk.cs).length = g.length * 3:=flat_len' Rk.cs_len g
theorem at0_fRk {g : List Rk} {k : Nat} (hk : k < g.length) : (g.flatMap Rk.cs)[k * 3 ]? = (Rk.cs (gt g k))[0]?:=flat_at (j:=0) Rk.cs_len hk (by omega)
theorem at1_fRk {g : List Rk} {k : Nat} (hk : k < g.length) : (g.flatMap Rk.cs)[k * 3 + 1]? = (Rk.cs (gt g k))[1]?:=flat_at (j:=1) Rk.cs_len hk (by omega)
theorem at2_fRk {g : List Rk} {k : Nat} (hk : k < g.length) : (g.flatMap Rk.cs)[k * 3 + 2]? = (Rk.cs (gt g k))[2]?:=flat_at (j:=2) Rk.cs_len hk (by omega)
theorem Ch7.cs_len (c : Ch7) : c.cs.length = 3:=rfl
def fCh (l : List Ch7) : F:=.s (l.flatMap Ch7.cs) l.length
theorem len_fCh {g : List Ch7} : (g.flatMap Ch7.cs).length = g.length * 3:=flat_len' Ch7.cs_len g
theorem ch_app {l : List Ch7} {k v : Bs} {b : Bool} : l.flatMap Ch7.cs ++ [F.v (.string (BB k)),.v (.bool b),fY v] = (l ++ [(⟨k,b,v⟩ : Ch7)]).flatMap Ch7.cs:=by simp [Ch7.cs]
def keyT : List Bs:=[[97],[98],[97,98],[99,47,49],[0],[122,122]]
def chOf (x : Rk) : Ch7:=⟨if x.n.tmod 41 = 40 then [] else gt keyT (pick x.key 6).toNat,decide (0 < x.n.tmod 4),if 0 < x.n.tmod 4 then fewL x.val 30 else []⟩
theorem keyT_at {z : Int} (h : 0 ≤ z ∧ z < 6) : [D.f (.v (.string ⟨#[97]⟩)),.f (.v (.string ⟨#[98]⟩)),.f (.v (.string ⟨#[97,98]⟩)),.f (.v (.string ⟨#[99,47,49]⟩)),.f (.v (.string ⟨#[0]⟩)),.f (.v (.string ⟨#[122,122]⟩))][z.toNat]? = some (.f (.v (.string (BB (gt keyT z.toNat))))):=by
  have : z.toNat = 0 ∨ z.toNat = 1 ∨ z.toNat = 2 ∨ z.toNat = 3 ∨ z.toNat = 4 ∨ z.toNat = 5:=by omega
  rcases this with h|h|h|h|h|h<;>rw [h]<;>rfl
set_option maxRecDepth 100000 in
theorem c_law_kvlist (l : List Rk) (n : Nat) (hn9 : n ≤ 1000) : Con Tryz.prog 32 [.f (fRk l),D.int n] [] fun r H'=>r = .f (fCh ((l.take n).map chOf)) ∧ H' = []:=by
  refine Con.walk good fn_law_kvlist (by simp) ?_
  unfold s_law_kvlist
  simp only [argsE]
  refine HS.seq ?_
  repeat' (with_reducible first|refine Wa.h ?_|refine Wr.h ?_|refine Wb.h fun K hK=>?_|(refine hK _ ?_;clear hK K)|(refine wT ?_ ?_;assumption)|(refine wF ?_ ?_;assumption)|(refine Wy.h ?_ ?_;kernel_rfl)|refine Wq.h ?_ ?_<;>intro h<;>try (exfalso;omega)|refine Wu.h ?_ ?_<;>intro h<;>try simp only [h]|((fail_if_success refine Wz.h ?_);first|simp (disch:=omega) only [↓LD,LA,loadA_rf,seval]|(refine And.intro ?_ ?_;omega)|simp only [D.int,D.bool]))
  refine HS.seq ?_
  repeat' (with_reducible first|refine Wa.h ?_|refine Wr.h ?_|refine Wb.h fun K hK=>?_|(refine hK _ ?_;clear hK K)|(refine wT ?_ ?_;assumption)|(refine wF ?_ ?_;assumption)|(refine Wy.h ?_ ?_;kernel_rfl)|refine Wq.h ?_ ?_<;>intro h<;>try (exfalso;omega)|refine Wu.h ?_ ?_<;>intro h<;>try simp only [h]|((fail_if_success refine Wz.h ?_);first|simp (disch:=omega) only [↓LD,LA,loadA_rf,seval]|(refine And.intro ?_ ?_;omega)|simp only [D.int,D.bool]))
  refine HS.view (View.void 58) ?_
  refine HS.view (View.slot 5 (.sl 0 0 0) (.no (by decide))) ?_
  repeat' (with_reducible first|refine Wx.h ?_|refine Wb.h fun K hK=>?_|(refine hK _ ?_;clear hK K)|(refine wT ?_ ?_;assumption)|(refine wF ?_ ?_;assumption)|(refine Wy.h ?_ ?_;kernel_rfl)|refine Wq.h ?_ ?_<;>intro h<;>try (exfalso;omega)|refine Wu.h ?_ ?_<;>intro h<;>try simp only [h]|((fail_if_success refine Wz.h ?_);first|simp (disch:=omega) only [↓LD,LA,loadA_rf,seval]|(refine And.intro ?_ ?_;omega)|simp only [D.int,D.bool]))
  refine HS.loopG [0,1,5,6] (fun x : Nat × List Ch7=>⟨frm 57 [(0,.f (fRk l)),(1,D.int n),(5,.sl 0 0 x.2.length),(6,D.int x.1)],[.data 58 (x.2.flatMap Ch7.cs)],[]⟩) (fun x=>x.1 ≤ l.length ∧ x.1 ≤ n ∧ x.2 = (l.take x.1).map chOf) (fun x=>l.length - x.1) (0,[]) (by kernel_rfl) ⟨Nat.zero_le _,Nat.zero_le _,rfl⟩ ?_
  rintro ⟨i,out⟩ ⟨hi,hn,ho⟩
  dsimp only at hi hn ho
  by_cases hc : i < l.length ∧ i < n
  · obtain ⟨h1,h2⟩:=hc
    have pk:=pick_in (x:=(gt l i).key) (n:=6) (by omega)
    have kt:=keyT_at pk
    have p4:=tmod_lt (x:=(gt l i).n) (n:=4) (by omega)
    have hol : out.length ≤ 1000:=by rw [ho,List.length_map,List.length_take];omega
    refine HS.seq ?_
    refine HS.seq ?_
    repeat' (with_reducible first|refine Wa.h ?_|refine Wr.h ?_|refine Wb.h fun K hK=>?_|(refine hK _ ?_;clear hK K)|(refine wT ?_ ?_;assumption)|(refine wF ?_ ?_;assumption)|(refine Wy.h ?_ ?_;kernel_rfl)|refine Wq.h ?_ ?_<;>intro h<;>try (exfalso;omega)|refine Wu.h ?_ ?_<;>intro h<;>try simp only [h]|((fail_if_success refine Wz.h ?_);first|simp (disch:=omega) only [↓LD,LA,loadA_rf,seval,slcS_fRk]|(refine And.intro ?_ ?_;omega)|simp only [D.int,D.bool]))
    refine HS.seq ?_
    repeat' (with_reducible first|refine Wa.h ?_|refine Wr.h ?_|refine Wb.h fun K hK=>?_|(refine hK _ ?_;clear hK K)|(refine wT ?_ ?_;assumption)|(refine wF ?_ ?_;assumption)|(refine Wy.h ?_ ?_;kernel_rfl)|refine Wq.h ?_ ?_<;>intro h<;>try (exfalso;omega)|refine Wu.h ?_ ?_<;>intro h<;>try simp only [h]|((fail_if_success refine Wz.h ?_);first|simp (disch:=omega) only [↓LD,LA,loadA_rf,seval]|(refine And.intro ?_ ?_;omega)|simp only [D.int,D.bool]))
    refine HS.seq ?_
    repeat' (with_reducible first|refine Wa.h ?_|refine Wr.h ?_|refine We.h fun K hK=>?_|refine Wd.h fun K M hK hM=>?_|(refine hK _ _ _ _ ?_;clear hK K;try clear hM M)|(refine hM ?_;clear hM M;try clear hK K)|refine Wb.h fun K hK=>?_|(refine hK _ ?_;clear hK K)|(refine wT ?_ ?_;assumption)|(refine wF ?_ ?_;assumption)|(refine Wy.h ?_ ?_;kernel_rfl)|refine Wq.h ?_ ?_<;>intro h<;>try (exfalso;omega)|refine Wu.h ?_ ?_<;>intro h<;>try simp only [h]|((fail_if_success refine Wz.h ?_);first|simp (disch:=omega) only [↓LD,LA,loadA_rf,seval,kt,slcS_fRk,idxS_fRk,len_fRk,at0_fRk,at1_fRk,at2_fRk,Rk.cs,-loadA_rf]|(refine And.intro ?_ ?_;omega)|simp only [D.int,D.bool]))
    all_goals
      refine HS.view (View.bcell 1 2 (.f (.s [] 0)) rfl rfl .ns) ?_
      repeat' (with_reducible first|refine Wx.h ?_|refine Wb.h fun K hK=>?_|(refine hK _ ?_;clear hK K)|(refine wT ?_ ?_;assumption)|(refine wF ?_ ?_;assumption)|(refine Wy.h ?_ ?_;kernel_rfl)|refine Wq.h ?_ ?_<;>intro h<;>try (exfalso;omega)|refine Wu.h ?_ ?_<;>intro h<;>try simp only [h]|((fail_if_success refine Wz.h ?_);first|simp (disch:=omega) only [↓LD,LA,loadA_rf,seval,slcS_fRk,idxS_fRk,len_fRk,at0_fRk,at1_fRk,at2_fRk,Rk.cs,len_fCh,-loadA_rf]|(refine And.intro ?_ ?_;omega)|simp only [D.int,D.bool]))
      try
        refine callW_pure (c_hand_Few _ 30 (by decide) (by decide)) rfl rfl rfl ?_
        repeat' (with_reducible first|refine Wx.h ?_|refine Wb.h fun K hK=>?_|(refine hK _ ?_;clear hK K)|(refine wT ?_ ?_;assumption)|(refine wF ?_ ?_;assumption)|(refine Wy.h ?_ ?_;kernel_rfl)|refine Wq.h ?_ ?_<;>intro h<;>try (exfalso;omega)|refine Wu.h ?_ ?_<;>intro h<;>try simp only [h]|((fail_if_success refine Wz.h ?_);first|simp (disch:=omega) only [↓LD,LA,loadA_rf,seval,slcS_fRk,idxS_fRk,len_fRk,at0_fRk,at1_fRk,at2_fRk,Rk.cs,len_fCh,-loadA_rf]|(refine And.intro ?_ ?_;omega)|simp only [D.int,D.bool]))
    · rename_i g4
      have hc : chOf (gt l i) = ⟨[],true,fewL (gt l i).val 30⟩:=by simp [chOf,h,g4]
      rw [show out.length + 1 = (out ++ [chOf (gt l i)]).length by simp,show out.flatMap Ch7.cs ++ [F.v (.string ⟨#[]⟩),.v (.bool true),fY (fewL (gt l i).val 30)] = (out ++ [chOf (gt l i)]).flatMap Ch7.cs by rw [hc];exact ch_app (k:=[]) (v:=fewL (gt l i).val 30)]
      exact Next.mk (i + 1,out ++ [chOf (gt l i)]) (by kernel_rfl) ⟨by dsimp only;omega,by dsimp only;omega,by dsimp only;rw [ho,List.take_succ_eq_append_getElem h1,List.map_append,← gt_eq h1];rfl⟩ (by dsimp only;omega)
    · rename_i g4
      have hc : chOf (gt l i) = ⟨gt keyT (pick (gt l i).key 6).toNat,true,fewL (gt l i).val 30⟩:=by simp [chOf,h,g4]
      rw [show out.length + 1 = (out ++ [chOf (gt l i)]).length by simp,show out.flatMap Ch7.cs ++ [F.v (.string (BB (gt keyT (pick (gt l i).key 6).toNat))),.v (.bool true),fY (fewL (gt l i).val 30)] = (out ++ [chOf (gt l i)]).flatMap Ch7.cs by rw [hc];exact ch_app (k:=gt keyT (pick (gt l i).key 6).toNat) (v:=fewL (gt l i).val 30)]
      exact Next.mk (i + 1,out ++ [chOf (gt l i)]) (by kernel_rfl) ⟨by dsimp only;omega,by dsimp only;omega,by dsimp only;rw [ho,List.take_succ_eq_append_getElem h1,List.map_append,← gt_eq h1];rfl⟩ (by dsimp only;omega)
    · rename_i g4
      have hc : chOf (gt l i) = ⟨[],false,[]⟩:=by simp [chOf,h,g4]
      rw [show out.length + 1 = (out ++ [chOf (gt l i)]).length by simp,show out.flatMap Ch7.cs ++ [F.v (.string ⟨#[]⟩),.v (.bool false),F.s [] 0] = (out ++ [chOf (gt l i)]).flatMap Ch7.cs by rw [hc];exact ch_app (k:=[]) (v:=[])]
      exact Next.mk (i + 1,out ++ [chOf (gt l i)]) (by kernel_rfl) ⟨by dsimp only;omega,by dsimp only;omega,by dsimp only;rw [ho,List.take_succ_eq_append_getElem h1,List.map_append,← gt_eq h1];rfl⟩ (by dsimp only;omega)
    · rename_i g4
      have hc : chOf (gt l i) = ⟨gt keyT (pick (gt l i).key 6).toNat,false,[]⟩:=by simp [chOf,h,g4]
      rw [show out.length + 1 = (out ++ [chOf (gt l i)]).length by simp,show out.flatMap Ch7.cs ++ [F.v (.string (BB (gt keyT (pick (gt l i).key 6).toNat))),.v (.bool false),F.s [] 0] = (out ++ [chOf (gt l i)]).flatMap Ch7.cs by rw [hc];exact ch_app (k:=gt keyT (pick (gt l i).key 6).toNat) (v:=[])]
      exact Next.mk (i + 1,out ++ [chOf (gt l i)]) (by kernel_rfl) ⟨by dsimp only;omega,by dsimp only;omega,by dsimp only;rw [ho,List.take_succ_eq_append_getElem h1,List.map_append,← gt_eq h1];rfl⟩ (by dsimp only;omega)
  · have hout : out = (l.take n).map chOf:=by
      rw [ho]
      by_cases h1 : i < l.length
      · rw [show i = n by omega]
      · rw [List.take_of_length_le (by omega),List.take_of_length_le (by omega)]
    repeat' (with_reducible first|refine Wx.h ?_|refine Wb.h fun K hK=>?_|(refine hK _ ?_;clear hK K)|(refine wT ?_ ?_;assumption)|(refine wF ?_ ?_;assumption)|(refine Wy.h ?_ ?_;kernel_rfl)|refine Wq.h ?_ ?_<;>intro h<;>try (exfalso;omega)|refine Wu.h ?_ ?_<;>intro h<;>try simp only [h]|((fail_if_success refine Wz.h ?_);first|simp (disch:=omega) only [↓LD,LA,loadA_rf,seval,slcS_fRk]|(refine And.intro ?_ ?_;omega)|simp only [D.int,D.bool]))
    all_goals
      rw [← hout]
      exact end1 rfl rfl (by kernel_rfl) (.sl (T:=58) (xs:=out.flatMap Ch7.cs) rfl (fun e=>by rw [List.eq_nil_of_length_eq_zero e];rfl)) ⟨rfl,rfl⟩
end Go.Proofs.YtdpeakapcfjibaaGreat.Mir
namespace Go.Proofs
open Go.Shelf
def YtdpeakapcfjibaaGreat.cloneL_ren : Go.Shelf.Ren:=⟨fun|5=>57|7=>102|n=>n,fun|23=>87|25=>3|3=>29|4=>4|20=>20|n=>n,fun|n=>n⟩
theorem YtdpeakapcfjibaaGreat.cloneL : Go.Proofs.SlLaysW.n5 Tryz.prog YtdpeakapcfjibaaGreat.cloneL_ren:={
  mixed:=by kernel_rfl
  f5:=⟨Tryz.f57.name,by decide,Tryz.func57.trans (congrArg some (by kernel_rfl))⟩
  f7:=Tryz.func102.trans (congrArg some (by kernel_rfl))
  t4:=Tryz.underlying4
  a4:=Tryz.isAgg4
  z4:=Tryz.sizeOf4
  v4:=Tryz.zeroValue4
  t20:=Tryz.underlying20
  a20:=Tryz.isAgg20
  z20:=Tryz.sizeOf20
  v20:=Tryz.zeroValue20
  t23:=Tryz.underlying87
  a23:=Tryz.isAgg87
  z23:=Tryz.sizeOf87
  v23:=Tryz.zeroValue87 }
end Go.Proofs
namespace Go.Proofs.YtdpeakapcfjibaaGreat.Mir
open Go Go.RowKit Go.Shelf
def cloneG : List D → List Row → Option Eff
  | [.f (.v (.map none))],_=>some ⟨.f (.v (.map none)),[],[]⟩
  | [.mp r],H=>match H[r]? with
    | some (.map es)=>some ⟨.mp H.length,[],[.map es]⟩
    | _=>none
  | _,_=>none
theorem one_arg {P : Program} {w : World} {φ : Nat → Nat × Nat} {A : Nat → Prop} {N : Nat} {d : D} {vs : Array Value} (h : Rs P w φ A N [d] vs.toList) : ∃ u,vs = #[u] ∧ R P w φ A N d u:=by
  obtain ⟨l⟩:=vs
  obtain ⟨h1,h2⟩:=h
  match l,h1 with
  | [u],_=>exact ⟨u,rfl,h2 0 d u rfl rfl⟩
theorem clone_ok : Sound Tryz.prog 57 cloneG:=by
  intro args H e hg w φ X vs hH hargs
  unfold cloneG at hg
  split at hg
  · injection hg with hg
    subst hg
    obtain ⟨u,rfl,hu⟩:=one_arg hargs
    cases hu with|f hu=>cases hu with|v _ =>
    have hcon:=AnyW.maps_Clone_nil YtdpeakapcfjibaaGreat.cloneL w
    change Calls Tryz.prog 57 _ _ _ at hcon
    refine hcon.mono ?_
    rintro e w' ⟨rfl,rfl⟩
    exact ⟨_,rfl,Leaves.quiet hH (.f (.v rfl))⟩
  · rename_i r
    split at hg
    · rename_i es hrow
      injection hg with hg
      subst hg
      obtain ⟨u,rfl,hu⟩:=one_arg hargs
      cases hu with|mp hr =>
      obtain ⟨en,clock,h1,h0,h2,h3⟩:=hH.rows r _ hrow
      have hcon:=AnyW.maps_Clone YtdpeakapcfjibaaGreat.cloneL (φ r).1 en clock w h1
      change Calls Tryz.prog 57 _ _ _ at hcon
      refine hcon.mono ?_
      rintro e w' ⟨rfl,rfl⟩
      refine ⟨_,rfl,leaves_more hH _ _ _ _ (fun A hA hk=>⟨⟨en,clock,by rw [ext1_new];exact alloc_new w _,h0,h2,fun i k d m hd hm=>?_⟩,?_⟩)⟩
      · obtain ⟨g1,g2,g3⟩:=h3 i k d m hd hm
        exact ⟨g1,g2.keep hk (fun _ h=>h.elim) hA (fun s hs=>ext1_old hs) (Nat.le_succ _),g3⟩
      · have:=R.mp (P:=Tryz.prog) (w:=w.alloc (.map en clock)) (φ:=ext1 φ H.length (w.heap.size,0)) (A:=A) (N:=H.length + 1) (r:=H.length) (by omega)
        rw [ext1_new] at this
        exact this
    · cases hg
  · cases hg
end Go.Proofs.YtdpeakapcfjibaaGreat.Mir
namespace Go.Proofs.YtdpeakapcfjibaaGreat.Mir
open Go Go.RowKit Go.Shelf Go.Maps Go.Sort
section
variable {P : Program} {w w' : World} {φ : Nat → Nat × Nat} {X : Nat → Prop} {H : List Row}
theorem keep_below (h : Below w.heap.size w w') : Keep (fun _=>False) w w' :=
  ⟨h.size,fun b hb _=>h.block b hb,fun b cs _ fr hc=>⟨cs,fr,(h.block b (block_lt hc)).trans hc,rfl⟩,h.os,h.tape,h.output⟩
theorem leaves_new (h : HR P w φ X H) (hk : Keep (fun _=>False) w w') (b : Nat) (hb : w.heap.size ≤ b) (row : Row) (d : D) (v : Value)
    (hrow : ∀ (A : Nat → Prop),(∀ c,c < w.heap.size → A c → Av X φ H c) → RowOk P w' (ext1 φ H.length (b,0)) A (H.length + 1) H.length row ∧ R P w' (ext1 φ H.length (b,0)) A (H.length + 1) d v) :
    Leaves P w φ X H ⟨d,[],[row]⟩ v w':=by
  obtain ⟨r1,r2,r3⟩:=h.more hk b 0 row hb (fun hav=>(hrow _ hav).1)
  refine ⟨ext1 φ H.length (b,0),fun r hr=>ext1_old hr,by simpa [Eff.heap,applyUpd] using r1,?_,hk.mono (fun _ _ h=>h.elim),by simpa [Eff.heap,applyUpd] using r2⟩
  have:=(hrow _ r3).2
  simpa [Eff.heap,applyUpd] using this
theorem leaves_same (h : HR P w φ X H) (hk : Keep (fun _=>False) w w') {d : D} {v : Value} (hd : ∀ A,R P w' φ A H.length d v) : Leaves P w φ X H ⟨d,[],[]⟩ v w':=by
  obtain ⟨r1,r2,r3⟩:=h.step (H':=H) (φ':=φ) (fun _=>False) hk (fun _ h=>h.elim) (Nat.le_refl _) (fun _ _=>rfl) (fun r x hx hl=>.inr (live_of hx hl)) (fun r x hx=>.inl ⟨hx,fun _ h=>h⟩) h.apart
  exact ⟨φ,fun _ _=>rfl,by simpa [Eff.heap,applyUpd] using r1,by simpa [Eff.heap,applyUpd] using hd _,hk.mono (fun _ _ h=>h.elim),by simpa [Eff.heap,applyUpd] using r2⟩
def resOf (T : TypeId) (n : Nat) (xs : List Value) : Eff :=
  if xs.isEmpty then ⟨.f (.v (.slice none 0 0)),[],[]⟩ else ⟨.sl n 0 xs.length,[],[.data T (xs.map F.v)]⟩
theorem sorted_leaves (hH : HR P w φ X H) (hb : Below w.heap.size w w') {T : TypeId} {i : TypeInfo} (hT : P.info? T = some i) (hi : i.size = 1) {xs : List Value} (h1 : ∀ x ∈ xs,x.oneCell' = true) {v : Value}
    (hrow : w'.ownsRow w.heap.size T 1 v xs.length xs) (hnil : v = .slice none 0 0 ↔ xs = []) : Leaves P w φ X H (resOf T H.length xs) v w':=by
  unfold resOf
  by_cases hx : xs = []
  · subst hx
    obtain rfl:=hnil.2 rfl
    exact leaves_same hH (keep_below hb) fun A=>.f (.v rfl)
  · rw [if_neg (by simpa using hx)]
    obtain ⟨_,hr⟩:=hrow
    rcases hr with ⟨hv,_⟩|⟨g,cap,cur,rfl,hbase,hg,hn,_,hsz,htake⟩
    · exact absurd (hnil.1 hv) hx
    · refine leaves_new hH (keep_below hb) g hbase _ _ _ fun A hA=>⟨?_,?_⟩
      · refine fun _=>⟨[],xs,cur.toList.drop xs.length,?_,by rw [ext1_new];rfl,by simp,fun j x u hj hu=>?_⟩
        · rw [ext1_new]
          refine hg.trans ?_
          rw [List.nil_append]
          have : cur = (xs ++ cur.toList.drop xs.length).toArray:=by
            rw [← htake,Nat.mul_one]
            apply Array.toList_inj.1
            have h2 : (cur.toList.take xs.length).length = xs.length:=by simp;omega
            simp only [h2,List.take_append_drop]
          rw [← this]
        · rw [List.getElem?_map,hu] at hj
          cases hj
          exact .v (h1 _ (List.mem_of_getElem? hu))
      · have:=R.sl (P:=P) (w:=w') (φ:=ext1 φ H.length (g,0)) (A:=A) (N:=H.length + 1) (r:=H.length) (off:=0) (n:=xs.length) (cap:=cap) (cs:=cur) (T:=T) (fr:=(0,0)) (i:=i) (List.length_pos_iff.2 hx) (by omega) hn (by rw [ext1_new];exact hg) hT (by rw [ext1_new,hi];simp;omega)
        rw [ext1_new] at this
        exact this
end
def insK {α : Type} (le : α → α → Bool) (x : α) : List α → List α
  | []=>[x]
  | y :: ys=>match le x y with
    | true=>x :: y :: ys
    | false=>y :: insK le x ys
def isort {α : Type} (le : α → α → Bool) : List α → List α
  | []=>[]
  | x :: xs=>insK le x (isort le xs)
theorem insK_perm {α : Type} (le : α → α → Bool) (x : α) : ∀ ys,(insK le x ys).Perm (x :: ys)
  | []=>.refl _
  | y :: ys=>by
    unfold insK
    split
    · exact .refl _
    · exact ((insK_perm le x ys).cons y).trans (.swap x y ys)
theorem isort_perm {α : Type} (le : α → α → Bool) : ∀ xs,(isort le xs).Perm xs
  | []=>.refl _
  | x :: xs=>(insK_perm le x _).trans ((isort_perm le xs).cons x)
theorem insK_pairwise {α : Type} {le : α → α → Bool} (tr : ∀ a b c,le a b = true → le b c = true → le a c = true) (tot : ∀ a b,(le a b || le b a) = true) (x : α) : ∀ ys,ys.Pairwise (fun a b=>le a b = true) → (insK le x ys).Pairwise (fun a b=>le a b = true)
  | [],_=>by simp [insK]
  | y :: ys,h=>by
    rw [List.pairwise_cons] at h
    unfold insK
    split
    · rename_i hxy
      refine List.pairwise_cons.2 ⟨fun z hz=>?_,List.pairwise_cons.2 h⟩
      rcases List.mem_cons.1 hz with rfl|hz
      · exact hxy
      · exact tr _ _ _ hxy (h.1 z hz)
    · rename_i hxy
      have hyx : le y x = true:=by
        have:=tot x y
        rw [hxy] at this;simpa using this
      refine List.pairwise_cons.2 ⟨fun z hz=>?_,insK_pairwise tr tot x ys h.2⟩
      rcases List.mem_cons.1 ((insK_perm le x ys).subset hz) with rfl|hz
      · exact hyx
      · exact h.1 z hz
theorem isort_pairwise {α : Type} {le : α → α → Bool} (tr : ∀ a b c,le a b = true → le b c = true → le a c = true) (tot : ∀ a b,(le a b || le b a) = true) : ∀ xs,(isort le xs).Pairwise (fun a b=>le a b = true)
  | []=>.nil
  | x :: xs=>insK_pairwise tr tot x _ (isort_pairwise tr tot xs)
theorem isort_eq {α : Type} {le : α → α → Bool} (tr : ∀ a b c,le a b = true → le b c = true → le a c = true) (tot : ∀ a b,(le a b || le b a) = true) (anti : ∀ a b,le a b = true → le b a = true → a = b) {xs ys : List α} (h : ys.Perm xs) : ys.mergeSort le = isort le xs :=
  List.Perm.eq_of_pairwise (le:=fun a b=>le a b = true) (fun a b _ _ h1 h2=>anti a b h1 h2) (List.pairwise_mergeSort tr tot ys) (isort_pairwise tr tot xs) (((List.mergeSort_perm ys le).trans h).trans (isort_perm le xs).symm)
def keysV {α : Type} (ofK : Value → Option α) : List Value → Option (List α)
  | []=>some []
  | v :: vs=>match ofK v with
    | some x=>match keysV ofK vs with
      | some xs=>some (x :: xs)
      | none=>none
    | none=>none
theorem keys_read {α : Type} {P : Program} {k : TypeId} (ofK : Value → Option α) (lit : α → Lit) (back : Lit → α) (hb : ∀ x,back (lit x) = x) (hk : ∀ v x,ofK v = some x → keyOf P k v = some (lit x)) :
    ∀ (l : List MapEntry) (ks : List α),keysV ofK (l.map (·.key)) = some ks → (∀ x ∈ l,∃ y,WideElems.rd (H:=Unit) P k (fun _=>some (.nil,[])) x = some y) ∧ (l.map (WideElems.rg (H:=Unit) P k (fun _=>some (.nil,[])))).map (fun p=>back p.1) = ks
  | [],ks,h=>by cases h;exact ⟨fun x hx=>(by cases hx),rfl⟩
  | e :: l,ks,h=>by
    simp only [List.map_cons,keysV] at h
    split at h
    · rename_i x hx
      split at h
      · rename_i xs hxs
        cases h
        obtain ⟨h1,h2⟩:=keys_read ofK lit back hb hk l xs hxs
        have hrd : WideElems.rd (H:=Unit) P k (fun _=>some (.nil,[])) e = some (lit x,.nil):=by simp [WideElems.rd,hk _ _ hx]
        refine ⟨fun y hy=>?_,?_⟩
        · rcases List.mem_cons.1 hy with rfl|hy
          · exact ⟨_,hrd⟩
          · exact h1 y hy
        · simp only [List.map_cons,h2,WideElems.rg,hrd,Option.getD_some,hb]
      · cases h
    · cases h
theorem owns_keys {α : Type} {P : Program} {k : TypeId} (ofK : Value → Option α) (lit : α → Lit) (back : Lit → α) (hb : ∀ x,back (lit x) = x) (hk : ∀ v x,ofK v = some x → keyOf P k v = some (lit x))
    {w : World} {q : Nat} {en : Array MapEntry} {clock : Nat} (hq : w.heap[q]? = some (.map en clock)) (hst : MapKept.Stamped en clock) {ks : List α} (hks : keysV ofK (en.toList.map (·.key)) = some ks) (hsz : en.size ≤ maxLen) :
    ∃ es : List (Lit × DataW Unit),w.ownsMap P k (fun _=>some (.nil,[])) q en.size (.map es) ∧ (es.map fun p=>back p.1).Perm ks ∧ es.length = en.size:=by
  obtain ⟨h1,h2⟩:=keys_read (P:=P) (k:=k) ofK lit back hb hk _ _ hks
  refine ⟨_,⟨en,clock,hq,⟨hsz,hst,h1⟩,Nat.le_refl _,rfl⟩,?_,by rw [length_sorted];simp⟩
  have:=(WideShapes.sorted_perm (en.toList.map (WideElems.rg (H:=Unit) P k (fun _=>some (.nil,[]))))).map (fun p=>back p.1)
  rw [h2] at this
  exact this
theorem one_arg1 {P : Program} {w : World} {φ : Nat → Nat × Nat} {A : Nat → Prop} {N : Nat} {d : D} {vs : Array Value} (h : Rs P w φ A N [d] vs.toList) : ∃ u,vs = #[u] ∧ R P w φ A N d u:=by
  obtain ⟨l⟩:=vs
  obtain ⟨h1,h2⟩:=h
  match l,h1 with
  | [u],_=>exact ⟨u,rfl,h2 0 d u rfl rfl⟩
def sortedG (k : FuncId) (T : TypeId) (srt : List Value → Option (List Value)) : List D → List Row → Option Eff
  | [.fn g [.pt r 0]],H=>match Nat.beq g k with
    | true=>match H[r]? with
      | some (.box _ [.f (.v (.map none))])=>some ⟨.f (.v (.slice none 0 0)),[],[]⟩
      | some (.box _ [.mp q])=>match H[q]? with
        | some (.map es)=>match srt (es.map (·.1)) with
          | some xs=>some (resOf T H.length xs)
          | none=>none
        | _=>none
      | _=>none
    | false=>none
  | _,_=>none
theorem sortedG_ok {P : Program} {f k : FuncId} {T : TypeId} (hT0 : (P.info? T).map (·.size) = some 1) {srt : List Value → Option (List Value)} (hone : ∀ l xs,srt l = some xs → ∀ x ∈ xs,x.oneCell' = true)
    (hnil : ∀ (w : World) (b : Nat),b < w.heap.size → w.cell? ⟨b,0,none⟩ = some (.map none) → Calls P f #[.func (.func k) #[] #[.pointer (some ⟨b,0,none⟩)]] w fun e w'=>e = .returned (.slice none 0 0) ∧ Below w.heap.size w w')
    (hsome : ∀ (w : World) (b q : Nat) (en : Array MapEntry) (clock : Nat) (xs : List Value),b < w.heap.size → w.cell? ⟨b,0,none⟩ = some (.map (some q)) → w.heap[q]? = some (.map en clock) → MapKept.Stamped en clock → srt (en.toList.map (·.key)) = some xs →
      Calls P f #[.func (.func k) #[] #[.pointer (some ⟨b,0,none⟩)]] w fun e w'=>∃ v,e = .returned v ∧ w'.ownsRow w.heap.size T 1 v xs.length xs ∧ (v = .slice none 0 0 ↔ xs = []) ∧ Below w.heap.size w w') : Sound P f (sortedG k T srt):=by
  obtain ⟨i,hT,hi⟩:=Option.map_eq_some_iff.1 hT0
  intro args H e hg w φ X vs hH hargs
  unfold sortedG at hg
  split at hg
  · rename_i g r
    split at hg
    · rename_i hgk
      obtain rfl : g = k:=Nat.eq_of_beq_eq_true hgk
      obtain ⟨u,rfl,hu⟩:=one_arg1 hargs
      cases hu with|fn hs hr =>
      rename_i us
      obtain ⟨u,rfl⟩ : ∃ u,us = #[u]:=by
        obtain ⟨l⟩:=us
        match l,hs with
        | [u],_=>exact ⟨u,rfl⟩
      have hu:=hr 0 _ u rfl rfl
      cases hu with|pt hrl =>
      split at hg
      · rename_i T0 hrow
        cases hg
        obtain ⟨h0,cs,h1,h2,h3⟩:=hH.rows r _ hrow
        obtain ⟨u,rfl⟩ : ∃ u,cs = #[u]:=by
          obtain ⟨l⟩:=cs
          match l,h2.1 with
          | [u],_=>exact ⟨u,rfl⟩
        have hu:=h2.2 0 _ u rfl rfl
        cases hu with|f hu=>cases hu with|v _ =>
        rw [h0]
        refine (hnil w (φ r).1 (block_lt h1) (by simp [World.cell?,h1])).mono ?_
        rintro e w' ⟨rfl,hb⟩
        exact ⟨_,rfl,leaves_same hH (keep_below hb) fun A=>.f (.v rfl)⟩
      · rename_i T0 q hrow
        split at hg
        · rename_i es hmap
          split at hg
          · rename_i xs hxs
            cases hg
            obtain ⟨h0,cs,h1,h2,h3⟩:=hH.rows r _ hrow
            obtain ⟨u,rfl⟩ : ∃ u,cs = #[u]:=by
              obtain ⟨l⟩:=cs
              match l,h2.1 with
              | [u],_=>exact ⟨u,rfl⟩
            have hu:=h2.2 0 _ u rfl rfl
            cases hu with|mp hql =>
            obtain ⟨en,clock,m1,m0,m2,m3⟩:=hH.rows q _ hmap
            have hkeys : en.toList.map (·.key) = es.map (·.1):=by
              apply List.ext_getElem?
              intro j
              rw [List.getElem?_map,List.getElem?_map]
              by_cases hj : j < es.length
              · have e1 : es[j]? = some es[j]:=List.getElem?_eq_getElem hj
                have hj' : j < en.size:=by omega
                have e2 : en[j]? = some en[j]:=Array.getElem?_eq_getElem hj'
                have e3 : en.toList[j]? = some en[j]:=by rw [Array.getElem?_toList];exact e2
                rw [e1,e3]
                exact congrArg some ((m3 j es[j].1 es[j].2 en[j] e1 e2).1)
              · rw [List.getElem?_eq_none (by rw [Array.length_toList];omega),List.getElem?_eq_none (by omega)];rfl
            rw [h0]
            refine (hsome w (φ r).1 (φ q).1 en clock xs (block_lt h1) (by simp [World.cell?,h1]) m1 m0 (by rw [hkeys];exact hxs)).mono ?_
            rintro e w' ⟨v,rfl,hrow,hn,hb⟩
            exact ⟨v,rfl,sorted_leaves hH hb hT hi (hone _ _ hxs) hrow hn⟩
          · cases hg
        · cases hg
      · cases hg
    · cases hg
  · cases hg
end Go.Proofs.YtdpeakapcfjibaaGreat.Mir
namespace Go.Proofs
open Go.RowKit Go.Maps Go.Sort Go.Shelf
def YtdpeakapcfjibaaGreat.keysL_ren : Go.Shelf.Ren:=⟨fun|7=>105|10=>128|n=>n,fun|23=>87|26=>3|3=>29|28=>163|0=>0|27=>162|33=>200|4=>4|n=>n,fun|n=>n⟩
theorem YtdpeakapcfjibaaGreat.keysL : Go.Proofs.SlLaysZI.n7 Tryz.prog YtdpeakapcfjibaaGreat.keysL_ren:={
  mixed:=by kernel_rfl
  f7:=⟨Tryz.f105.name,by decide,Tryz.func105.trans (congrArg some (by kernel_rfl))⟩
  f10:=⟨Tryz.f128.name,by decide,Tryz.func128.trans (congrArg some (by kernel_rfl))⟩
  t0:=Tryz.underlying0
  a0:=Tryz.isAgg0
  z0:=Tryz.sizeOf0
  v0:=Tryz.zeroValue0
  t4:=Tryz.underlying4
  a4:=Tryz.isAgg4
  z4:=Tryz.sizeOf4
  v4:=Tryz.zeroValue4
  t23:=Tryz.underlying87
  a23:=Tryz.isAgg87
  z23:=Tryz.sizeOf87
  v23:=Tryz.zeroValue87
  t26:=Tryz.underlying3
  a26:=Tryz.isAgg3
  z26:=Tryz.sizeOf3
  v26:=Tryz.zeroValue3
  t27:=Tryz.underlying162
  a27:=Tryz.isAgg162
  z27:=Tryz.sizeOf162
  v27:=Tryz.zeroValue162
  t28:=Tryz.underlying163
  a28:=Tryz.isAgg163
  z28:=Tryz.sizeOf163
  v28:=Tryz.zeroValue163
  t33:=Tryz.underlying200
  a33:=Tryz.isAgg200
  z33:=Tryz.sizeOf200
  v33:=Tryz.zeroValue200 }
def YtdpeakapcfjibaaGreat.sortedL_ren : Go.Shelf.Ren:=⟨fun|6=>104|8=>126|9=>127|11=>136|13=>138|12=>137|23=>151|24=>152|14=>142|15=>143|16=>144|17=>145|18=>146|19=>147|20=>148|21=>149|22=>150|25=>164|26=>165|27=>166|28=>167|29=>168|30=>169|31=>177|n=>n,fun|26=>3|28=>163|24=>23|0=>0|3=>3|37=>155|48=>94|50=>154|4=>4|40=>211|39=>210|45=>216|5=>5|9=>9|51=>226|55=>230|57=>236|58=>237|33=>200|n=>n,fun|n=>n⟩
theorem YtdpeakapcfjibaaGreat.sortedL : Go.Proofs.SlLaysZI.n6 Tryz.prog YtdpeakapcfjibaaGreat.sortedL_ren:={
  mixed:=by kernel_rfl
  f6:=⟨Tryz.f104.name,by decide,Tryz.func104.trans (congrArg some (by kernel_rfl))⟩
  f8:=⟨Tryz.f126.name,by decide,Tryz.func126.trans (congrArg some (by kernel_rfl))⟩
  f11:=⟨Tryz.f136.name,by decide,Tryz.func136.trans (congrArg some (by kernel_rfl))⟩
  t0:=Tryz.underlying0
  a0:=Tryz.isAgg0
  z0:=Tryz.sizeOf0
  v0:=Tryz.zeroValue0
  t24:=Tryz.underlying23
  a24:=Tryz.isAgg23
  z24:=Tryz.sizeOf23
  v24:=Tryz.zeroValue23
  t26:=Tryz.underlying3
  a26:=Tryz.isAgg3
  z26:=Tryz.sizeOf3
  v26:=Tryz.zeroValue3
  t28:=Tryz.underlying163
  a28:=Tryz.isAgg163
  z28:=Tryz.sizeOf163
  v28:=Tryz.zeroValue163
  i26:=by kernel_rfl }
def YtdpeakapcfjibaaGreat.sortL_ren : Go.Shelf.Ren:=⟨fun|5=>127|8=>138|7=>137|19=>151|20=>152|10=>142|11=>143|12=>144|13=>145|14=>146|15=>147|16=>148|17=>149|18=>150|30=>164|31=>165|32=>166|33=>167|34=>168|35=>169|40=>177|n=>n,fun|23=>23|25=>3|3=>3|32=>155|22=>23|0=>0|44=>94|46=>154|4=>4|36=>211|35=>210|41=>216|5=>5|9=>9|53=>226|57=>230|63=>236|64=>237|n=>n,fun|n=>n⟩
theorem YtdpeakapcfjibaaGreat.sortL : Go.Proofs.SlLaysM.n5 Tryz.prog YtdpeakapcfjibaaGreat.sortL_ren:={
  mixed:=by kernel_rfl
  f5:=⟨Tryz.f127.name,by decide,Tryz.func127.trans (congrArg some (by kernel_rfl))⟩
  f7:=⟨Tryz.f137.name,by decide,Tryz.func137.trans (congrArg some (by kernel_rfl))⟩
  f8:=Tryz.func138.trans (congrArg some (by kernel_rfl))
  f10:=⟨Tryz.f142.name,by decide,Tryz.func142.trans (congrArg some (by kernel_rfl))⟩
  f11:=⟨Tryz.f143.name,by decide,Tryz.func143.trans (congrArg some (by kernel_rfl))⟩
  f12:=⟨Tryz.f144.name,by decide,Tryz.func144.trans (congrArg some (by kernel_rfl))⟩
  f13:=⟨Tryz.f145.name,by decide,Tryz.func145.trans (congrArg some (by kernel_rfl))⟩
  f14:=⟨Tryz.f146.name,by decide,Tryz.func146.trans (congrArg some (by kernel_rfl))⟩
  f15:=⟨Tryz.f147.name,by decide,Tryz.func147.trans (congrArg some (by kernel_rfl))⟩
  f16:=⟨Tryz.f148.name,by decide,Tryz.func148.trans (congrArg some (by kernel_rfl))⟩
  f17:=⟨Tryz.f149.name,by decide,Tryz.func149.trans (congrArg some (by kernel_rfl))⟩
  f18:=⟨Tryz.f150.name,by decide,Tryz.func150.trans (congrArg some (by kernel_rfl))⟩
  f19:=Tryz.func151.trans (congrArg some (by kernel_rfl))
  f20:=Tryz.func152.trans (congrArg some (by kernel_rfl))
  f30:=⟨Tryz.f164.name,by decide,Tryz.func164.trans (congrArg some (by kernel_rfl))⟩
  f31:=Tryz.func165.trans (congrArg some (by kernel_rfl))
  f32:=Tryz.func166.trans (congrArg some (by kernel_rfl))
  f33:=⟨Tryz.f167.name,by decide,Tryz.func167.trans (congrArg some (by kernel_rfl))⟩
  f34:=⟨Tryz.f168.name,by decide,Tryz.func168.trans (congrArg some (by kernel_rfl))⟩
  f35:=⟨Tryz.f169.name,by decide,Tryz.func169.trans (congrArg some (by kernel_rfl))⟩
  f40:=⟨Tryz.f177.name,by decide,Tryz.func177.trans (congrArg some (by kernel_rfl))⟩
  t0:=Tryz.underlying0
  a0:=Tryz.isAgg0
  z0:=Tryz.sizeOf0
  v0:=Tryz.zeroValue0
  t3:=Tryz.underlying3
  a3:=Tryz.isAgg3
  z3:=Tryz.sizeOf3
  v3:=Tryz.zeroValue3
  t4:=Tryz.underlying4
  a4:=Tryz.isAgg4
  z4:=Tryz.sizeOf4
  v4:=Tryz.zeroValue4
  t5:=Tryz.underlying5
  a5:=Tryz.isAgg5
  z5:=Tryz.sizeOf5
  v5:=Tryz.zeroValue5
  t9:=Tryz.underlying9
  a9:=Tryz.isAgg9
  z9:=Tryz.sizeOf9
  v9:=Tryz.zeroValue9
  t22:=Tryz.underlying23
  a22:=Tryz.isAgg23
  z22:=Tryz.sizeOf23
  v22:=Tryz.zeroValue23
  t23:=Tryz.underlying23
  a23:=Tryz.isAgg23
  z23:=Tryz.sizeOf23
  v23:=Tryz.zeroValue23
  t25:=Tryz.underlying3
  a25:=Tryz.isAgg3
  z25:=Tryz.sizeOf3
  v25:=Tryz.zeroValue3
  t32:=Tryz.underlying155
  a32:=Tryz.isAgg155
  z32:=Tryz.sizeOf155
  v32:=Tryz.zeroValue155
  t35:=Tryz.underlying210
  a35:=Tryz.isAgg210
  z35:=Tryz.sizeOf210
  v35:=Tryz.zeroValue210
  t36:=Tryz.underlying211
  a36:=Tryz.isAgg211
  z36:=Tryz.sizeOf211
  v36:=Tryz.zeroValue211
  t41:=Tryz.underlying216
  a41:=Tryz.isAgg216
  z41:=Tryz.sizeOf216
  v41:=Tryz.zeroValue216
  t44:=Tryz.underlying94
  a44:=Tryz.isAgg94
  z44:=Tryz.sizeOf94
  v44:=Tryz.zeroValue94
  t46:=Tryz.underlying154
  a46:=Tryz.isAgg154
  z46:=Tryz.sizeOf154
  v46:=Tryz.zeroValue154
  t53:=Tryz.underlying226
  a53:=Tryz.isAgg226
  z53:=Tryz.sizeOf226
  v53:=Tryz.zeroValue226
  t57:=Tryz.underlying230
  a57:=Tryz.isAgg230
  z57:=Tryz.sizeOf230
  v57:=Tryz.zeroValue230
  t63:=Tryz.underlying236
  a63:=Tryz.isAgg236
  z63:=Tryz.sizeOf236
  v63:=Tryz.zeroValue236
  t64:=Tryz.underlying237
  a64:=Tryz.isAgg237
  z64:=Tryz.sizeOf237
  v64:=Tryz.zeroValue237 }
end Go.Proofs
namespace Go.Proofs.YtdpeakapcfjibaaGreat.Mir
open Go Go.RowKit Go.Shelf Go.Maps Go.Sort
def ofI : Value → Option Int
  | .int .i64 n=>match decide (-9223372036854775808 ≤ n) && decide (n ≤ 9223372036854775807) with
    | true=>some n
    | false=>none
  | _=>none
def sortI (vs : List Value) : Option (List Value):=match keysV ofI vs with
  | some ks=>match Nat.ble ks.length 1000000 with
    | true=>some ((isort (fun x y=>decide (x ≤ y)) ks).map encZ)
    | false=>none
  | none=>none
theorem sortI_eq {vs xs : List Value} (h : sortI vs = some xs) : ∃ ks,keysV ofI vs = some ks ∧ ks.length ≤ 1000000 ∧ xs = (isort (fun x y=>decide (x ≤ y)) ks).map encZ:=by
  unfold sortI at h
  split at h
  · rename_i ks hks
    split at h
    · rename_i hl
      cases h
      exact ⟨ks,hks,Nat.le_of_ble_eq_true hl,rfl⟩
    · cases h
  · cases h
theorem sortsI (m : Nat) : AnyZI.SortsIn Tryz.prog YtdpeakapcfjibaaGreat.sortedL_ren Fence.wide m :=
  ⟨fun blk off cap ss W hH hblk hsz=>callsIn_wide.2 (AnyM.slices_Sort_int YtdpeakapcfjibaaGreat.sortL blk off cap ss W hH hblk hsz),
   fun p cap W=>callsIn_wide.2 (AnyM.slices_Sort_int_none YtdpeakapcfjibaaGreat.sortL p cap W)⟩
theorem sortedI_ok : Sound Tryz.prog 104 (sortedG 128 3 sortI):=by
  refine sortedG_ok (by kernel_rfl) ?_ ?_ ?_
  · intro l xs h x hx
    obtain ⟨ks,_,_,rfl⟩:=sortI_eq h
    obtain ⟨y,_,rfl⟩:=List.mem_map.1 hx
    rfl
  · intro w b hb hm
    refine (callsIn_wide (n:=5)).1 ?_
    have hseq : SeqGives Fence.wide 2 Tryz.prog 128 #[.pointer (some ⟨b,0,none⟩)] encZ (fun ss : List Int=>ss = []) 0 w :=
      AnyZI.keys_gives_nil (ρ:=YtdpeakapcfjibaaGreat.keysL_ren) { YtdpeakapcfjibaaGreat.keysL with } Fence.wide _ trivial rfl b _ hb hm
    have cS:=AnyZI.sorted_in YtdpeakapcfjibaaGreat.sortedL Fence.wide 5 trivial trivial trivial trivial rfl (by omega) (sortsI _) (enters_of Tryz.func127 (by kernel_rfl) rfl) 128 #[.pointer (some ⟨b,0,none⟩)] trivial (enters_of Tryz.func128 (by kernel_rfl) rfl) _ 0 (Nat.zero_le _) (by omega) _ hseq
    change CallsIn _ _ Tryz.prog 104 _ _ _ at cS
    refine cS.mono ?_
    rintro e w' ⟨v,ss,rfl,rfl,hrow,hnil,hb⟩
    obtain rfl : v = .slice none 0 0:=hnil.2 rfl
    exact ⟨rfl,hb⟩
  · intro w b q en clock xs hb hm hq hst hxs
    obtain ⟨ks,hks,hlen,rfl⟩:=sortI_eq hxs
    have hen : en.size = ks.length:=by
      have : ∀ (l : List Value) (ks : List Int),keysV ofI l = some ks → l.length = ks.length:=by
        intro l
        induction l with
        | nil=>intro ks h;cases h;rfl
        | cons v l ih =>
          intro ks h
          unfold keysV at h
          split at h
          · split at h
            · rename_i hxs
              cases h
              simp [ih _ hxs]
            · cases h
          · cases h
      have:=this _ _ hks
      simpa using this
    obtain ⟨es,hown,hperm,hel⟩:=owns_keys (P:=Tryz.prog) (k:=3) ofI (Lit.int .i64) Go.intOf (fun _=>rfl) (fun v x h=>by
      unfold ofI at h
      split at h
      · rename_i n
        split at h
        · rename_i hn
          cases h
          simp at hn
          have hk : Tryz.prog.underlying 3 = some (.int .i64):=by kernel_rfl
          simp [keyOf,hk,mapKey,Lit.wf]
          exact hn
        · cases h
      · cases h) hq hst hks (by simp [maxLen];omega)
    refine (callsIn_wide (n:=5)).1 ?_
    have hseq : SeqGives Fence.wide 2 Tryz.prog 128 #[.pointer (some ⟨b,0,none⟩)] encZ (fun ss=>ss.Perm (intKeys (.map es))) (Maps.size (.map es)) w :=
      AnyZI.keys_gives (ρ:=YtdpeakapcfjibaaGreat.keysL_ren) { YtdpeakapcfjibaaGreat.keysL with } Fence.wide _ trivial rfl (by omega) b q en.size (.map es) _ hb hm hown
    have cS:=AnyZI.sorted_in YtdpeakapcfjibaaGreat.sortedL Fence.wide 5 trivial trivial trivial trivial rfl (by omega) (sortsI _) (enters_of Tryz.func127 (by kernel_rfl) rfl) 128 #[.pointer (some ⟨b,0,none⟩)] trivial (enters_of Tryz.func128 (by kernel_rfl) rfl) _ _ (by rw [Maps.size_eq,hel,hen];simp [maxLen];omega) (by rw [Maps.size_eq,hel,hen];omega) _ hseq
    change CallsIn _ _ Tryz.prog 104 _ _ _ at cS
    refine cS.mono ?_
    rintro e w' ⟨v,ss,rfl,hS,hrow,hnil,hb⟩
    have hss : ss.Perm ks:=hS.trans hperm
    have hsort:=isort_eq (le:=fun x y : Int=>decide (x ≤ y)) (by intro a b c;simp;omega) (by intro a b;simp;omega) (by intro a b;simp;omega) hss
    refine ⟨v,rfl,?_,?_,hb⟩
    · rw [hsort] at hrow
      have : ss.length = ((isort (fun x y : Int=>decide (x ≤ y)) ks).map encZ).length:=by
        rw [← hsort];simp
      rw [← this];exact hrow
    · rw [hnil,List.map_eq_nil_iff,← hsort]
      constructor
      · rintro rfl;simp
      · intro h
        have:=congrArg List.length h
        simpa using this
end Go.Proofs.YtdpeakapcfjibaaGreat.Mir
namespace Go.Proofs.YtdpeakapcfjibaaGreat
def cpoly : Nat:=3988292384
def cstep (c : Nat) : Nat:=(c >>> 1) ^^^ (cpoly * (c % 2))
def cstep8 (c : Nat) : Nat:=cstep (cstep (cstep (cstep (cstep (cstep (cstep (cstep c)))))))
def cupd (c : Nat) (x : UInt8) : Nat:=cstep8 (c ^^^ x.toNat)
def crcN (bs : List UInt8) : Nat:=4294967295 ^^^ bs.foldl cupd 4294967295
theorem cstep_lt {c : Nat} (h : c < 4294967296) : cstep c < 4294967296:=by
  have h1 : c >>> 1 < 2 ^ 32:=by rw [Nat.shiftRight_eq_div_pow];omega
  have h2 : cpoly * (c % 2) < 2 ^ 32:=by
    rcases Nat.mod_two_eq_zero_or_one c with h|h<;>rw [h]<;>simp [cpoly]
  exact Nat.xor_lt_two_pow h1 h2
theorem cstep8_lt {c : Nat} (h : c < 4294967296) : cstep8 c < 4294967296 :=
  cstep_lt (cstep_lt (cstep_lt (cstep_lt (cstep_lt (cstep_lt (cstep_lt (cstep_lt h)))))))
theorem cupd_lt {c : Nat} (h : c < 4294967296) (x : UInt8) : cupd c x < 4294967296 :=
  cstep8_lt (Nat.xor_lt_two_pow (n:=32) h (by have:=x.toNat_lt;omega))
theorem foldl_lt (bs : List UInt8) : ∀ {c : Nat},c < 4294967296 → bs.foldl cupd c < 4294967296:=by
  induction bs with
  | nil=>intro c h;exact h
  | cons x bs ih=>intro c h;exact ih (cupd_lt h x)
theorem xor_mod2 (a b : Nat) : (a ^^^ b) % 2 = (a % 2) ^^^ (b % 2):=by
  have:=Nat.xor_mod_two_pow (a:=a) (b:=b) (n:=1)
  simpa using this
theorem poly_xor (a b : Nat) (ha : a < 2) (hb : b < 2) : cpoly * (a ^^^ b) = (cpoly * a) ^^^ (cpoly * b):=by
  match a,b,ha,hb with
  | 0,0,_,_=>rfl
  | 0,1,_,_=>rfl
  | 1,0,_,_=>rfl
  | 1,1,_,_=>rfl
theorem cstep_xor (a b : Nat) : cstep (a ^^^ b) = cstep a ^^^ cstep b:=by
  unfold cstep
  rw [Nat.shiftRight_xor_distrib,xor_mod2,poly_xor _ _ (Nat.mod_lt _ (by omega)) (Nat.mod_lt _ (by omega))]
  ac_rfl
theorem cstep8_xor (a b : Nat) : cstep8 (a ^^^ b) = cstep8 a ^^^ cstep8 b:=by
  unfold cstep8;simp only [cstep_xor]
theorem cstep_double (m : Nat) : cstep (2 * m) = m:=by
  unfold cstep
  rw [Nat.shiftRight_eq_div_pow,show 2 * m / 2 ^ 1 = m by omega,show 2 * m % 2 = 0 by omega]
  simp
theorem cstep8_256 (m : Nat) : cstep8 (256 * m) = m:=by
  unfold cstep8
  rw [show 256 * m = 2 * (2 * (2 * (2 * (2 * (2 * (2 * (2 * m))))))) by omega]
  simp only [cstep_double]
theorem split_256 (c : Nat) : c = (256 * (c / 256)) ^^^ (c % 256):=by
  have h:=Nat.two_pow_add_eq_or_of_lt (i:=8) (b:=c % 256) (Nat.mod_lt _ (by omega)) (c / 256)
  have h2 : 2 ^ 8 * (c / 256) ||| c % 256 = (2 ^ 8 * (c / 256)) ^^^ (c % 256):=by
    apply Nat.eq_of_testBit_eq
    intro i
    rw [Nat.testBit_or,Nat.testBit_xor]
    by_cases hi : i < 8
    · have : (2 ^ 8 * (c / 256)).testBit i = false:=by rw [Nat.testBit_two_pow_mul];simp;omega
      simp [this]
    · have : (c % 256).testBit i = false:=by
        apply Nat.testBit_lt_two_pow
        exact Nat.lt_of_lt_of_le (Nat.mod_lt c (by omega : 256 > 0)) (Nat.pow_le_pow_right (n:=2) (i:=8) (by omega) (by omega))
      simp [this]
  have h3 : c = 2 ^ 8 * (c / 256) + c % 256:=by omega
  conv=>lhs;rw [h3,h,h2]
theorem table_step (c x : Nat) : (c / 256) ^^^ cstep8 ((c % 256) ^^^ x) = cstep8 (c ^^^ x):=by
  conv=>rhs;rw [split_256 c]
  rw [Nat.xor_assoc,cstep8_xor (256 * (c / 256)),cstep8_256]
end Go.Proofs.YtdpeakapcfjibaaGreat
namespace Go.Proofs.YtdpeakapcfjibaaGreat
open Go Go.RowKit
theorem race_disable (w : World) : (callFunc 188 #[]).run Tryz.prog w = .ok (.value (.tuple #[])) w:=run_call_mark0 Tryz.func188 (by kernel_rfl) (by kernel_rfl) (by kernel_rfl) .disable (by kernel_rfl) w
theorem race_enable (w : World) : (callFunc 190 #[]).run Tryz.prog w = .ok (.value (.tuple #[])) w:=run_call_mark0 Tryz.func190 (by kernel_rfl) (by kernel_rfl) (by kernel_rfl) .enable (by kernel_rfl) w
theorem race_acquire (a : Addr) (w : World) : (callFunc 191 #[.pointer (some a)]).run Tryz.prog w = .ok (.value (.tuple #[])) w:=run_call_marked Tryz.func191 (by kernel_rfl) (by kernel_rfl) (by kernel_rfl) .acquire (by kernel_rfl) a w
theorem race_releaseMerge (a : Addr) (w : World) : (callFunc 193 #[.pointer (some a)]).run Tryz.prog w = .ok (.value (.tuple #[])) w:=run_call_marked Tryz.func193 (by kernel_rfl) (by kernel_rfl) (by kernel_rfl) .releaseMerge (by kernel_rfl) a w
theorem bool_load (b o : Nat) (x : Int) (w : World) (hc : w.cell? ⟨b,o,none⟩ = some (.int .u32 x)) :
    Calls Tryz.prog 170 #[.pointer (some ⟨b,o,none⟩)] w fun e w'=>e = .returned (.bool (x != 0)) ∧ w' = w:=by
  have hl:=run_call_load (P:=Tryz.prog) Tryz.func178 (by kernel_rfl) (by kernel_rfl) (by kernel_rfl) .u32 (by kernel_rfl) hc
  go_enter Tryz.func170,Tryz.ntmps170
  go_wp2
  go_ret
  exact ⟨rfl,rfl⟩
theorem store_deferred (a : Addr) (x : Value) (u : FrameMode) (w : World) (hc : w.cell? a = some x) (hz : w.frozen? a = false) :
    CallsD Tryz.prog 181 #[.pointer (some a),.bool true] u w fun e u' w'=>u' = u ∧ (e = .returned (.tuple #[]) ∧ w' = w.drew.setCell a (.int .u32 1)):=by
  have hc' : w.drew.cell? a = some x:=by go_simp
  have hz' : w.drew.frozen? a = false:=by go_simp
  have hst:=run_call_store (P:=Tryz.prog) Tryz.func186 (by kernel_rfl) (by kernel_rfl) (by kernel_rfl) (by kernel_rfl) (k:=.u32) (y:=1) hc' hz'
  go_enter_d Tryz.func181,Tryz.ntmps181
  go_wp2
  go_region_calls
  all_goals (go_end0;exact ⟨rfl,rfl⟩)
set_option maxRecDepth 100000 in
theorem unlock_deferred (a : Addr) (u : FrameMode) (w : World) (hc : w.cell? a = some (.int .i32 1)) (hz : w.frozen? a = false) :
    CallsD Tryz.prog 180 #[.pointer (some a)] u w fun e u' w'=>u' = u ∧ (e = .returned (.tuple #[]) ∧ w' = w.setCell a (.int .i32 0)):=by
  have hd:=race_disable
  have he:=race_enable
  have hr:=race_releaseMerge
  have hadd:=run_call_add (P:=Tryz.prog) Tryz.func194 (by kernel_rfl) (by kernel_rfl) (by kernel_rfl) .i32 (by kernel_rfl) (y:=-1) (s:=0) hc hz (by simp [go_sem];rfl)
  have hcv:=run_convert_to_unsafe (P:=Tryz.prog) (src:=250) (dst:=254) Tryz.underlying250 Tryz.underlying254 (by kernel_rfl) hc
  go_enter_d Tryz.func180,Tryz.ntmps180
  go_wp2
  go_end0
  go_wp2
  go_end0
  exact ⟨rfl,rfl⟩
set_option maxRecDepth 100000 in
theorem lock_free (a : Addr) (w : World) (hc : w.cell? a = some (.int .i32 0)) (hz : w.frozen? a = false) :
    Calls Tryz.prog 179 #[.pointer (some a)] w fun e w'=>e = .returned (.tuple #[]) ∧ w' = w.setCell a (.int .i32 1):=by
  have hd:=race_disable
  have he:=race_enable
  have ha:=race_acquire
  have hcas:=run_call_cas_hit (P:=Tryz.prog) Tryz.func189 (by kernel_rfl) (by kernel_rfl) (by kernel_rfl) .i32 (by kernel_rfl) (y:=1) hc hz
  have hc' : (w.setCell a (.int .i32 1)).cell? a = some (.int .i32 1):=World.cell?_setCell_same w a _ hc
  have hcv:=run_convert_to_unsafe (P:=Tryz.prog) (src:=250) (dst:=254) Tryz.underlying250 Tryz.underlying254 (by kernel_rfl) hc'
  go_enter Tryz.func179,Tryz.ntmps179
  go_wp2
  first|go_end0|(simp only [Exit.inBlock,Exit.then];refine bodyPost_ret (results_none rfl _ _ _) rfl ?_)|refine bodyPost_ret (results_none rfl _ _ _) rfl ?_
  go_wp2
  go_end0
  exact ⟨rfl,rfl⟩
theorem do_done (b o : Nat) (fv : Value) (w : World) (h0 : w.cell? ⟨b,o,none⟩ = some (.int .u32 1)) :
    Calls Tryz.prog 153 #[.pointer (some ⟨b,o,none⟩),fv] w fun e w'=>e = .returned (.tuple #[]) ∧ w' = w:=by
  have hnot : ∀ (x : Bool) (w : World),(Op.unary .not (.bool x)).run Tryz.prog w = .ok (.bool (!x)) w:=fun _ _=>rfl
  go_enter Tryz.func153,Tryz.ntmps153
  go_wp2_with (go_at_call 170;refine (bool_load b o 1 _ h0).mono ?_;rintro e w' ⟨rfl,rfl⟩)
  go_end0
  exact ⟨rfl,rfl⟩
def TAt (w : World) (b : Nat) (d s m : Int) (ws : List Nat) : Prop :=
  ws.length = 256 ∧ w.heap[b]? = some (.cells ([Value.int .u32 d,.int .i32 s,.int .u32 0,.int .i64 m] ++ ws.map (fun n : Nat=>Value.int .u32 n)).toArray 198 (0,0))
theorem TAt.c0 {w : World} {b : Nat} {d s m : Int} {ws : List Nat} (h : TAt w b d s m ws) : w.cell? ⟨b,0,none⟩ = some (.int .u32 d):=by rw [cellH h.2];simp
theorem TAt.c1 {w : World} {b : Nat} {d s m : Int} {ws : List Nat} (h : TAt w b d s m ws) : w.cell? ⟨b,1,none⟩ = some (.int .i32 s):=by rw [cellH h.2];simp
theorem TAt.c3 {w : World} {b : Nat} {d s m : Int} {ws : List Nat} (h : TAt w b d s m ws) : w.cell? ⟨b,3,none⟩ = some (.int .i64 m):=by rw [cellH h.2];simp
theorem TAt.cw {w : World} {b : Nat} {d s m : Int} {ws : List Nat} (h : TAt w b d s m ws) {k : Nat} (hk : k < 256) : w.cell? ⟨b,4 + k,none⟩ = some (.int .u32 (ws.getD k 0 : Nat)):=by
  have hk' : k < ws.length:=by rw [h.1];exact hk
  rw [cellH h.2,show 4 + k = k + 1 + 1 + 1 + 1 by omega]
  simp [hk']
theorem TAt.fz {w : World} {b : Nat} {d s m : Int} {ws : List Nat} (h : TAt w b d s m ws) (k : Nat) : w.frozen? ⟨b,k,none⟩ = false:=frozH h.2 k
theorem TAt.set0 {w : World} {b : Nat} {d s m : Int} {ws : List Nat} (h : TAt w b d s m ws) (x : Int) : TAt (w.setCell ⟨b,0,none⟩ (.int .u32 x)) b x s m ws:=by
  refine ⟨h.1,?_⟩;rw [setH h.2];simp
theorem TAt.set1 {w : World} {b : Nat} {d s m : Int} {ws : List Nat} (h : TAt w b d s m ws) (x : Int) : TAt (w.setCell ⟨b,1,none⟩ (.int .i32 x)) b d x m ws:=by
  refine ⟨h.1,?_⟩;rw [setH h.2];simp
theorem TAt.set3 {w : World} {b : Nat} {d s m : Int} {ws : List Nat} (h : TAt w b d s m ws) (x : Int) : TAt (w.setCell ⟨b,3,none⟩ (.int .i64 x)) b d s x ws:=by
  refine ⟨h.1,?_⟩;rw [setH h.2];simp
theorem TAt.setw {w : World} {b : Nat} {d s m : Int} {ws : List Nat} (h : TAt w b d s m ws) (k : Nat) (x : Nat) : TAt (w.setCell ⟨b,4 + k,none⟩ (.int .u32 x)) b d s m (ws.set k x):=by
  refine ⟨by simp [h.1],?_⟩
  rw [setH h.2]
  congr 2
  apply Array.ext'
  simp [show 4 + k = k + 1 + 1 + 1 + 1 by omega,List.map_set]
def zeros256 : List Nat:=List.replicate 256 0
def tab256 : List Nat:=(List.range 256).map cstep8
def tabTo (k : Nat) : List Nat:=(List.range k).map cstep8 ++ List.replicate (256 - k) 0
theorem tabTo_0 : tabTo 0 = zeros256:=by simp only [tabTo,zeros256,List.range_zero,List.map_nil,List.nil_append,Nat.sub_zero]
theorem tabTo_256 : tabTo 256 = tab256:=by simp only [tabTo,tab256,Nat.sub_self,List.replicate_zero,List.append_nil]
theorem tabTo_set {k : Nat} (hk : k < 256) : (tabTo k).set k (cstep8 k) = tabTo (k + 1):=by
  unfold tabTo
  rw [List.set_append_right _ _ (by simp),List.range_succ,List.map_append]
  simp
  rw [show 256 - k = 256 - (k + 1) + 1 by omega,List.replicate_succ]
  simp
def citer : Nat → Nat → Nat
  | 0,c=>c
  | n + 1,c=>cstep (citer n c)
theorem citer_8 (c : Nat) : citer 8 c = cstep8 c:=rfl
theorem citer_lt {c : Nat} (h : c < 4294967296) (n : Nat) : citer n c < 4294967296:=by
  induction n with
  | zero=>exact h
  | succ n ih=>exact cstep_lt ih
theorem cstepZ {c : Nat} (h : c < 4294967296) : bits BinOp.xor IntKind.u32 ((c : Int) / 2) (3988292384 * bits BinOp.and IntKind.u32 (c : Int) 1 % 4294967296) = ((cstep c : Nat) : Int):=by
  have h1:=u32_and_nat c 1 h (by omega)
  rw [show ((1 : Nat) : Int) = 1 from rfl,Nat.and_one_is_mod] at h1
  rw [h1,show (3988292384 : Int) * ((c % 2 : Nat) : Int) % 4294967296 = ((cpoly * (c % 2) : Nat) : Int) by unfold cpoly;omega,show (c : Int) / 2 = ((c / 2 : Nat) : Int) by omega]
  have h2 : cpoly * (c % 2) < 4294967296:=by unfold cpoly;omega
  rw [u32_xor_nat _ _ (by omega) h2]
  unfold cstep
  rw [Nat.shiftRight_eq_div_pow]
set_option maxRecDepth 100000 in
set_option maxHeartbeats 1000000 in
theorem fill_any (b : Nat) (d s : Int) (w : World) (h : TAt w b d s 0 zeros256) :
    Calls Tryz.prog 154 #[.pointer (some ⟨b,0,none⟩)] w fun e w'=>e = .returned (.tuple #[]) ∧ TAt w' b d s 1 tab256 ∧ Ch (fun k=>k = b) w w':=by
  go_enter Tryz.func154,Tryz.ntmps154
  go_wp2
  go_loopw [2,3,4,5,10] (fun _ _ _ i _ wr=>∃ k : Nat,i = .int .i64 k ∧ k ≤ 256 ∧ TAt wr b d s 0 (tabTo k) ∧ Ch (fun k=>k = b) w wr) (fun _ _ _ i _ _=>256 - (intOf i).toNat)
  case atStart=>exact ⟨0,rfl,by omega,by rw [tabTo_0];exact h,Ch.refl _ _⟩
  case round =>
    obtain ⟨k,rfl,hk,ht,hch⟩:=hrel
    by_cases hlt : k < 256
    · go_wp2
      go_loop [3,4,10] (fun c _ j=>∃ n : Nat,j = .int .i64 n ∧ n ≤ 8 ∧ c = .int .u32 (citer n k : Nat)) (fun _ _ j=>8 - (intOf j).toNat)
      case atStart=>exact ⟨0,rfl,by omega,by simp [citer]⟩
      case round =>
        obtain ⟨n,rfl,hn,rfl⟩:=hrel
        by_cases hn8 : n < 8
        · go_wp2
          go_round
          case rel=>exact ⟨n + 1,by go_num,by omega,by rw [cstepZ (citer_lt (by omega) n)];rfl⟩
          case measure=>simp [intOf];omega
        · obtain rfl : n = 8:=by omega
          rw [citer_8]
          have hcw:=ht.cw hlt
          have hfw:=ht.fz (4 + k)
          have hfin:=ht.setw k (cstep8 k)
          rw [tabTo_set hlt] at hfin
          have Hfin:=Lib.hid hfin;clear hfin
          have Hch:=Lib.hid hch;clear hch
          clear ht
          go_wp2
          go_roundw
          case rel=>exact ⟨k + 1,by go_num,by omega,Hfin.out,Hch.out.setCell (p:=⟨b,4 + k,none⟩) (fun _=>rfl) _⟩
          case measure=>simp [intOf];omega
    · obtain rfl : k = 256:=by omega
      rw [tabTo_256] at ht
      have h3:=ht.c3
      have f3:=ht.fz 3
      have hadd:=run_call_add (P:=Tryz.prog) Tryz.func182 (by kernel_rfl) (by kernel_rfl) (by kernel_rfl) .i64 (by kernel_rfl) (y:=1) (s:=1) h3 f3 (by simp [go_sem,IntKind.wrap_i64])
      have hfin:=ht.set3 1
      have Hfin:=Lib.hid hfin
      clear hfin ht h3 f3
      go_wp2
      go_end0
      exact ⟨rfl,Hfin.out,hch.setCell (p:=⟨b,3,none⟩) (fun _=>rfl) _⟩
set_option maxRecDepth 100000 in
set_option maxHeartbeats 1600000 in
theorem slow_fill (b : Nat) (w : World) (h : TAt w b 0 0 0 zeros256) :
    Calls Tryz.prog 171 #[.pointer (some ⟨b,0,none⟩),.func (.func 154) #[.pointer (some ⟨b,0,none⟩)] #[]] w fun e w'=>e = .returned (.tuple #[]) ∧ TAt w' b 1 0 1 tab256 ∧ Ch (fun k=>k = b) w w':=by
  have hnot : ∀ (x : Bool) (w : World),(Op.unary .not (.bool x)).run Tryz.prog w = .ok (.bool (!x)) w:=fun _ _=>rfl
  have h1:=h.set1 1
  have ch1 : Ch (fun k=>k = b) w (w.setCell ⟨b,1,none⟩ (.int .i32 1)):=Ch.setCell (S:=fun k=>k = b) (Ch.refl _ _) (p:=⟨b,1,none⟩) (fun _=>rfl) _
  go_enter_defers Tryz.func171,Tryz.ntmps171
  go_wp2_with fail
  refine (lock_free ⟨b,1,none⟩ _ h.c1 (h.fz 1)).mono ?_;rintro e w1 ⟨rfl,rfl⟩
  go_wp2_with fail
  refine (bool_load b 0 0 _ h1.c0).mono ?_;rintro e w1 ⟨rfl,rfl⟩
  go_wp2_with fail
  refine (fill_any b 0 1 _ h1).mono ?_;rintro e w2 ⟨rfl,h2,ch2⟩
  go_wp2_with fail
  refine leaves_cons (f:=181) (args:=#[.pointer (some ⟨b,0,none⟩),.bool true]) (by simp) (by simp [go_sem]) ?_
  refine (store_deferred ⟨b,0,none⟩ (.int .u32 0) .returning _ h2.c0 (h2.fz 0)).mono ?_
  rintro e u' w'' ⟨rfl,rfl,rfl⟩
  have h3 : TAt (w2.drew.setCell ⟨b,0,none⟩ (.int .u32 1)) b 1 1 1 tab256:=TAt.set0 (w:=w2.drew) h2 1
  refine leaves_cons (f:=180) (args:=#[.pointer (some ⟨b,1,none⟩)]) (by simp [settle]) (by simp [go_sem]) ?_
  refine (unlock_deferred ⟨b,1,none⟩ _ _ h3.c1 (h3.fz 1)).mono ?_
  rintro e u' w'' ⟨rfl,rfl,rfl⟩
  have h4:=h3.set1 0
  simp [Leaves,settle,results,Tryz.results171]
  refine ⟨h4,?_⟩
  have c2:=ch1.trans ch2
  exact ((c2.drew.setCell (p:=⟨b,0,none⟩) (fun _=>rfl) _).setCell (p:=⟨b,1,none⟩) (fun _=>rfl) _)
theorem do_fill (b : Nat) (w : World) (h : TAt w b 0 0 0 zeros256) :
    Calls Tryz.prog 153 #[.pointer (some ⟨b,0,none⟩),.func (.func 154) #[.pointer (some ⟨b,0,none⟩)] #[]] w fun e w'=>e = .returned (.tuple #[]) ∧ TAt w' b 1 0 1 tab256 ∧ Ch (fun k=>k = b) w w':=by
  have hnot : ∀ (x : Bool) (w : World),(Op.unary .not (.bool x)).run Tryz.prog w = .ok (.bool (!x)) w:=fun _ _=>rfl
  go_enter Tryz.func153,Tryz.ntmps153
  go_wp2_with fail
  refine (bool_load b 0 0 _ h.c0).mono ?_;rintro e w1 ⟨rfl,rfl⟩
  go_wp2_with fail
  refine (slow_fill b _ h).mono ?_;rintro e w1 ⟨rfl,h1,ch1⟩
  go_wp2_with fail
  go_end0
  exact ⟨rfl,h1,ch1⟩
def TS (w : World) (b : Nat) (made : Bool) : Prop:=match made with|true=>TAt w b 1 0 1 tab256|false=>TAt w b 0 0 0 zeros256
def u8s (bs : List UInt8) : List Value:=bs.map fun x=>Value.int .u8 (x.toNat : Nat)
theorem once_fill (b : Nat) (m : Bool) (w : World) (h : TS w b m) :
    Calls Tryz.prog 153 #[.pointer (some ⟨b,0,none⟩),.func (.func 154) #[.pointer (some ⟨b,0,none⟩)] #[]] w fun e w'=>e = .returned (.tuple #[]) ∧ TAt w' b 1 0 1 tab256 ∧ Ch (fun k=>k = b) w w':=by
  cases m
  · exact do_fill b w h
  · exact (do_done b 0 _ w (TAt.c0 h)).mono fun e w' ⟨he,hw⟩=>by subst hw;exact ⟨he,h,Ch.refl _ _⟩
theorem tab256_get {k : Nat} (hk : k < 256) : tab256.getD k 0 = cstep8 k:=by simp [tab256,hk]
set_option maxRecDepth 100000 in
set_option maxHeartbeats 1000000 in
theorem sum_any (b : Nat) (m : Bool) (a : Option Addr) (c : Nat) (bs : List UInt8) (w : World) (h : TS w b m) (hr : Rd w a (u8s bs)) (hb : bs ≠ [] → ∀ ad,a = some ad → ad.block ≠ b) (hl : bs.length ≤ 140737488355328) :
    Calls Tryz.prog 139 #[.pointer (some ⟨b,0,none⟩),.slice a bs.length c] w fun e w'=>e = .returned (.int .u32 (crcN bs : Nat)) ∧ TS w' b true ∧ Ch (fun k=>k = b) w w':=by
  have hmf : ∀ (fn : Fn) (first cap : Array Value) (w : World),(Instr.makeFunc fn first cap).run Tryz.prog w = .ok (.func fn first cap) w:=fun _ _ _ _=>rfl
  go_enter Tryz.func139,Tryz.ntmps139
  go_wp2_with fail
  refine (once_fill b m _ h).mono ?_;rintro e w1 ⟨rfl,h1,ch1⟩
  have hr1 : Rd w1 a (u8s bs):=by
    by_cases hne : bs = []
    · subst hne;exact Rd.nil _ _
    · exact Rd.keep ch1 hr (fun ad had hk=>hb hne ad had hk)
  clear hb
  clear h hr
  go_wp2_with fail
  go_loop [5,7,16] (fun cc _ i=>∃ k : Nat,i = .int .i64 k ∧ k ≤ bs.length ∧ cc = .int .u32 ((bs.take k).foldl cupd 4294967295 : Nat)) (fun _ _ i=>bs.length - (intOf i).toNat)
  case atStart=>exact ⟨0,rfl,by omega,rfl⟩
  case round =>
    obtain ⟨k,rfl,hk,rfl⟩:=hrel
    by_cases hlt : k < bs.length
    · obtain ⟨g,off,rfl,_,hcell⟩:=Rd.at hr1 (k:=k) (by simpa [u8s] using hlt)
      have hx:=hcell k (.int .u8 (bs[k].toNat : Nat)) (by simp [u8s,hlt])
      have hcl:=foldl_lt (bs.take k) (c:=4294967295) (by omega)
      have hstep : (bs.take (k + 1)).foldl cupd 4294967295 = cupd ((bs.take k).foldl cupd 4294967295) bs[k]:=by
        rw [List.take_succ_eq_append_getElem hlt,List.foldl_append];rfl
      generalize (bs.take k).foldl cupd 4294967295 = cc at hcl hstep
      have hxl:=bs[k].toNat_lt
      have Hstep:=Lib.hid hstep;clear hstep
      obtain ⟨x,hxx⟩ : ∃ x,x = bs[k]:=⟨_,rfl⟩
      rw [← hxx] at hx hxl Hstep
      have Hxx:=Lib.hid hxx;clear hxx
      have ht256 : (cc % 256) ^^^ x.toNat < 256:=Nat.xor_lt_two_pow (n:=8) (by omega) (by omega)
      have hix:=u8_xor_nat (cc % 256) x.toNat (by omega) (by omega)
      have hrow:=h1.cw ht256
      rw [tab256_get ht256] at hrow
      have htl : cstep8 ((cc % 256) ^^^ x.toNat) < 4294967296:=cstep8_lt (by omega)
      have hfin:=u32_xor_nat (cc / 256) (cstep8 ((cc % 256) ^^^ x.toNat)) (by omega) htl
      rw [table_step] at hfin
      generalize hg : (cc % 256) ^^^ x.toNat = t at hix hrow hfin ht256
      rw [show ((cc % 256 : Nat) : Int) = (cc : Int) % 256 from rfl] at hix
      rw [show ((cc / 256 : Nat) : Int) = (cc : Int) / 256 from rfl] at hfin
      clear hcell hg htl
      go_wp2
      go_round
      case rel=>exact ⟨k + 1,by go_num,by omega,by rw [Hstep.out];rfl⟩
      case measure=>simp [intOf];omega
    · obtain rfl : k = bs.length:=by omega
      have hcl:=foldl_lt bs (c:=4294967295) (by omega)
      rw [List.take_length]
      have hfin:=u32_xor_nat 4294967295 _ (by omega) hcl
      have Hfin:=Lib.hid hfin
      clear hfin
      go_wp2
      go_ret
      exact ⟨congrArg (fun n=>Ending.returned (.int .u32 n)) Hfin.out,h1,ch1⟩
end Go.Proofs.YtdpeakapcfjibaaGreat
