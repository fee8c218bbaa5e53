/- Texts laid into one file: CSame, SmA, SmB, SmC, CRefS, SmD, Has, KnR, CLaw12E, SsA, StateSameIn. -/
import Derived.Test.YtgbbpelfpagdoaaGreatDoorSs12
set_option linter.unusedVariables false
set_option linter.unusedSimpArgs false
namespace Go.Proofs.YtgbbpelfpagdoaaGreatDoor.Mir
open Go Go.RowKit
def s_st_Same : SCode :=
  (jq ([.a 2 (.box 29 (.t 0)),.a 3 (.box 29 (.t 1)),.a 4 (.mv kF)]) (jq ((ap [jo 5 0 2,jl 6 5,jo 7 0 3,jl 8 7,jB 9 .eql 6 8] (ap [jm 10 9,gO 11 1
 2 10 true] (ap [gL 12 11 10 true,gO 13 1 3 10 true,gL 14 13 10 true,jG 15 (.bin .eql (.t 12) (.t 14)) 10 true] (ap [.a 16 (.pick (.t 10) (.t 15)
 kF),jm 17 16,gO 18 2 2 17 true] (ap [gL 19 18 17 true,gO 20 2 3 17 true,gL 21 20 17 true,jG 22 (.bin .eql (.t 19) (.t 21)) 17 true] (ap [.a 23
 (.pick (.t 17) (.t 22) kF),jm 24 23,gO 25 3 2 24 true] (ap [gL 26 25 24 true,gO 27 3 3 24 true,gL 28 27 24 true,jG 29 (.bin .eql (.t 26) (.t 28))
 24 true] (ap [.a 30 (.pick (.t 24) (.t 29) kF),jm 31 30,gO 32 4 2 31 true] (ap [gL 33 32 31 true,gO 34 4 3 31 true,gL 35 34 31 true,jG 36 (.binb
 .eql (.t 33) (.t 35)) 31 true,.a 37 (.pick (.t 31) (.t 36) kF),jm 38 37,gO 39 5 2 38 true] (ap [gL 40 39 38 true,jG 41 (.bld [jI,jI,jI,jI,jI,
 jI,(.f (.v (.string ⟨#[]⟩))),jN,jN] [(8,1,(.t 40))]) 38 true,gO 42 5 3 38 true,gL 43 42 38 true,jG 44 (.bld [jI,jI,jI,jI,jI,jI,(.f (.v
 (.string ⟨#[]⟩))),jN,jN] [(8,1,(.t 43))]) 38 true,jG 45 (.call (kC 17) [(.t 41),(.t 44)]) 38 true] (ap [.a 46 (.pick (.t 38) (.t 45) kF),jm 47
 46,gO 48 6 2 47 true] (ap [gL 49 48 47 true,gO 50 6 3 47 true,gL 51 50 47 true,jG 52 (.call (kC 18) [(.t 49),(.t 51),(kC 19)]) 47 true] (ap [.a
 53 (.pick (.t 47) (.t 52) kF),jm 54 53,gO 55 7 2 54 true] (ap [gL 56 55 54 true,gO 57 7 3 54 true,gL 58 57 54 true,jG 59 (.call (kC 20) [(.t 56),
 (.t 58)]) 54 true] (ap [.a 60 (.pick (.t 54) (.t 59) kF),jm 61 60,gO 62 8 2 61 true] (ap [gL 63 62 61 true,gO 64 8 3 61 true,gL 65 64 61 true,jG
 66 (.call (kC 21) [(.t 63),(.t 65),(kC 22)]) 61 true] [.a 67 (.pick (.t 61) (.t 66) kF),jm 4 67]))))))))))))))))) .ret))
theorem fn_st_Same : Fn Tryz.prog 9 68 [.t 4] s_st_Same:=.of Tryz.func9 (by kernel_rfl)
def s_ev_Same : SCode :=
  (jq ([.a 2 (.box 42 (.t 0)),.a 3 (.box 42 (.t 1)),.a 4 (.mv kF)]) (jq ((ap [jo 5 0 2,jl 6 5,jo 7 0 3,jl 8 7,jB 9 .eql 6 8] (ap [jm 10 9,gO 11 1
 2 10 true] (ap [gL 12 11 10 true,gO 13 1 3 10 true,gL 14 13 10 true,jG 15 (.bin .eql (.t 12) (.t 14)) 10 true] (ap [.a 16 (.pick (.t 10) (.t 15)
 kF),jm 17 16,gO 18 2 2 17 true] (ap [gL 19 18 17 true,gO 20 2 3 17 true,gL 21 20 17 true,jG 22 (.bin .eql (.t 19) (.t 21)) 17 true] (ap [.a 23
 (.pick (.t 17) (.t 22) kF),jm 24 23,gO 25 3 2 24 true] (ap [gL 26 25 24 true,gO 27 3 3 24 true,gL 28 27 24 true,jG 29 (.bin .eql (.t 26) (.t 28))
 24 true] (ap [.a 30 (.pick (.t 24) (.t 29) kF),jm 31 30,gO 32 4 2 31 true] (ap [gL 33 32 31 true,gO 34 4 3 31 true,gL 35 34 31 true,jG 36 (.bin
 .eql (.t 33) (.t 35)) 31 true] (ap [.a 37 (.pick (.t 31) (.t 36) kF),jm 38 37,gO 39 5 2 38 true] (ap [gL 40 39 38 true,gO 41 5 3 38 true,gL 42 41
 38 true,jG 43 (.bin .eql (.t 40) (.t 42)) 38 true] (ap [.a 44 (.pick (.t 38) (.t 43) kF),jm 45 44,gO 46 6 2 45 true] (ap [gL 47 46 45 true,gO 48 6
 3 45 true,gL 49 48 45 true,jG 50 (.bin .eql (.t 47) (.t 49)) 45 true] (ap [.a 51 (.pick (.t 45) (.t 50) kF),jm 52 51,gO 53 7 2 52 true] (ap [gL 54
 53 52 true,gO 55 7 3 52 true,gL 56 55 52 true,jG 57 (.call (kC 37) [(.t 54),(.t 56)]) 52 true] (ap [.a 58 (.pick (.t 52) (.t 57) kF),jm 59 58,gO
 60 8 2 59 true] (ap [gL 61 60 59 true,gO 62 8 3 59 true,gL 63 62 59 true,jG 64 (.call (kC 38) [(.t 61),(.t 63),(kC 39)]) 59 true] [.a 65 (.pick
 (.t 59) (.t 64) kF),jm 4 65])))))))))))))))))) .ret))
theorem fn_ev_Same : Fn Tryz.prog 17 66 [.t 4] s_ev_Same:=.of Tryz.func17 (by kernel_rfl)
def s_nd_EqualFunc : SCode :=
  (jq ([.a 6 (.mv kF)]) (.seq (jq ([jm 10 0,je 11 10,jm 12 1,je 13 12,jB 14 .neq 11 13]) (jc 14 (jq ([.a 6 (.mv kF)]) .ret) .skip)) (.seq (jq ([jm 15
 0,je 16 15,jk 17 0]) (.block 0 (.loop (jq ([jB 18 .lss 17 16]) (.seq (jc 18 .skip (.exit 0)) (.seq (.block 1 (jq ([jm 19 17,jx 20 4 15 17,jL 21 4
 20,.a 8 (.alloc 51 [jI,jI,jI,jN]),jm 7 19,.n (.store 4 (.t 8) (.t 21))]) (jq ([jm 22 1,jm 23 7,jx 24 4 22 23,jL 25 4 24,.a 9 (.alloc 51 [jI,
 jI,jI,jN]),.n (.store 4 (.t 9) (.t 25))]) (jq ((ap [jm 26 2,jL 27 4 8,jL 28 4 9,.a 29 (.call (.t 26) [(.t 27),(.t 28)])] [.a 30 (.unot (.t
 29))])) (jc 30 (jq ([.a 6 (.mv kF)]) .ret) .skip))))) (.ops [jb 31 .add 17 1,jm 17 31]))))))) (jq ([.a 6 (.mv kT)]) .ret))))
theorem fn_nd_EqualFunc : Fn Tryz.prog 18 32 [.t 6] s_nd_EqualFunc:=.of Tryz.func18 (by kernel_rfl)
def s_st_sameNode : SCode :=
  (jq ([.a 2 (.box 51 (.t 0)),.a 3 (.box 51 (.t 1)),.a 4 (.mv kF)]) (jq ((ap [jo 5 0 2,jl 6 5,jo 7 0 3,jl 8 7,jB 9 .eql 6 8] (ap [jm 10 9,gO 11 1
 2 10 true] (ap [gL 12 11 10 true,gO 13 1 3 10 true,gL 14 13 10 true,jG 15 (.bin .eql (.t 12) (.t 14)) 10 true] (ap [.a 16 (.pick (.t 10) (.t 15)
 kF),jm 17 16,gO 18 2 2 17 true] (ap [gL 19 18 17 true,gO 20 2 3 17 true,gL 21 20 17 true,jG 22 (.bin .eql (.t 19) (.t 21)) 17 true] (ap [.a 23
 (.pick (.t 17) (.t 22) kF),jm 24 23,gO 25 3 2 24 true] (ap [gL 26 25 24 true,gO 27 3 3 24 true,gL 28 27 24 true,jG 29 (.call (kC 40) [(.t 26),(.t
 28)]) 24 true] [.a 30 (.pick (.t 24) (.t 29) kF),jm 4 30])))))))) .ret))
theorem fn_st_sameNode : Fn Tryz.prog 19 31 [.t 4] s_st_sameNode:=.of Tryz.func19 (by kernel_rfl)
def s_tm_Equal : SCode :=
  (jq ([.a 4 (.mv kF)]) (.seq (jq ([jm 6 0,je 7 6,jm 8 1,je 9 8,jB 10 .neq 7 9]) (jc 10 (jq ([.a 4 (.mv kF)]) .ret) .skip)) (.seq (jq ([jm 11 0,je
 12 11,jk 13 0]) (.block 0 (.loop (jq ([jB 14 .lss 13 12]) (.seq (jc 14 .skip (.exit 0)) (.seq (.block 1 (jq ([jm 15 13,jm 5 15]) (.seq (.drw [jm 16
 0,jm 17 5,jx 18 3 16 17,jL 19 3 18,jm 20 1,jm 21 5,jx 22 3 20 21,jL 23 3 22,.a 24 (.aeq false [1,0,2] (.t 19) (.t 23))] [0,0,3,7,0,0,
 48,112,255]) (jc 24 (jq ([.a 4 (.mv kF)]) .ret) .skip)))) (.ops [jb 25 .add 13 1,jm 13 25]))))))) (jq ([.a 4 (.mv kT)]) .ret))))
theorem fn_tm_Equal : Fn Tryz.prog 20 26 [.t 4] s_tm_Equal:=.of Tryz.func20 (by kernel_rfl)
def s_sg_EqualFunc : SCode :=
  (jq ([.a 6 (.mv kF)]) (.seq (jq ([jm 10 0,je 11 10,jm 12 1,je 13 12,jB 14 .neq 11 13]) (jc 14 (jq ([.a 6 (.mv kF)]) .ret) .skip)) (.seq (jq ([jm 15
 0,je 16 15,jk 17 0]) (.block 0 (.loop (jq ([jB 18 .lss 17 16]) (.seq (jc 18 .skip (.exit 0)) (.seq (.block 1 (jq ([jm 19 17,jx 20 3 15 17,jL 21 3
 20,.a 8 (.alloc 60 [(.f (.v (.string ⟨#[]⟩))),jI,jN]),jm 7 19,.n (.store 3 (.t 8) (.t 21))]) (jq ([jm 22 1,jm 23 7,jx 24 3 22 23,jL 25 3 24,.a
 9 (.alloc 60 [(.f (.v (.string ⟨#[]⟩))),jI,jN]),.n (.store 3 (.t 9) (.t 25))]) (jq ((ap [jm 26 2,jL 27 3 8,jL 28 3 9,.a 29 (.call (.t 26) [(.t
 27),(.t 28)])] [.a 30 (.unot (.t 29))])) (jc 30 (jq ([.a 6 (.mv kF)]) .ret) .skip))))) (.ops [jb 31 .add 17 1,jm 17 31]))))))) (jq ([.a 6 (.mv kT)])
 .ret))))
theorem fn_sg_EqualFunc : Fn Tryz.prog 21 32 [.t 6] s_sg_EqualFunc:=.of Tryz.func21 (by kernel_rfl)
def s_st_sameSignal : SCode :=
  (jq ([.a 2 (.box 60 (.t 0)),.a 3 (.box 60 (.t 1)),.a 4 (.mv kF)]) (jq ((ap [jo 5 0 2,jl 6 5,jo 7 0 3,jl 8 7,jB 9 .eql 6 8] (ap [jm 10 9,gO 11 1
 2 10 true] (ap [gL 12 11 10 true,gO 13 1 3 10 true,gL 14 13 10 true,jG 15 (.bin .eql (.t 12) (.t 14)) 10 true] (ap [.a 16 (.pick (.t 10) (.t 15)
 kF),jm 17 16,gO 18 2 2 17 true] (ap [gL 19 18 17 true,gO 20 2 3 17 true,gL 21 20 17 true,jG 22 (.call (kC 40) [(.t 19),(.t 21)]) 17 true] [.a 23
 (.pick (.t 17) (.t 22) kF),jm 4 23])))))) .ret))
theorem fn_st_sameSignal : Fn Tryz.prog 22 24 [.t 4] s_st_sameSignal:=.of Tryz.func22 (by kernel_rfl)
def s_by_Equal : SCode :=
  (jq ([.a 4 (.mv kF)]) (.seq (jq ([jm 6 0,je 7 6,jm 8 1,je 9 8,jB 10 .neq 7 9]) (jc 10 (jq ([.a 4 (.mv kF)]) .ret) .skip)) (.seq (jq ([jm 11 0,je
 12 11,jk 13 0]) (.block 0 (.loop (jq ([jB 14 .lss 13 12]) (.seq (jc 14 .skip (.exit 0)) (.seq (.block 1 (jq ([jm 15 13,jm 5 15]) (.seq (.drw [jm 16
 0,jm 17 5,jx 18 1 16 17,jl 19 18,jm 20 1,jm 21 5,jx 22 1 20 21,jl 23 22,jB 24 .neq 19 23] [0,0,3,7,0,0,48,112,255]) (jc 24 (jq ([.a 4
 (.mv kF)]) .ret) .skip)))) (.ops [jb 25 .add 13 1,jm 13 25]))))))) (jq ([.a 4 (.mv kT)]) .ret))))
theorem fn_by_Equal : Fn Tryz.prog 37 26 [.t 4] s_by_Equal:=.of Tryz.func37 (by kernel_rfl)
def s_df_EqualFunc : SCode :=
  (jq ([.a 6 (.mv kF)]) (.seq (jq ([jm 10 0,je 11 10,jm 12 1,je 13 12,jB 14 .neq 11 13]) (jc 14 (jq ([.a 6 (.mv kF)]) .ret) .skip)) (.seq (jq ([jm 15
 0,je 16 15,jk 17 0]) (.block 0 (.loop (jq ([jB 18 .lss 17 16]) (.seq (jc 18 .skip (.exit 0)) (.seq (.block 1 (jq ([jm 19 17,jx 20 3 15 17,jL 21 3
 20,.a 8 (.alloc 48 [jN,jI,jI]),jm 7 19,.n (.store 3 (.t 8) (.t 21))]) (jq ([jm 22 1,jm 23 7,jx 24 3 22 23,jL 25 3 24,.a 9 (.alloc 48 [jN,jI,
 jI]),.n (.store 3 (.t 9) (.t 25))]) (jq ((ap [jm 26 2,jL 27 3 8,jL 28 3 9,.a 29 (.call (.t 26) [(.t 27),(.t 28)])] [.a 30 (.unot (.t 29))])) (jc
 30 (jq ([.a 6 (.mv kF)]) .ret) .skip))))) (.ops [jb 31 .add 17 1,jm 17 31]))))))) (jq ([.a 6 (.mv kT)]) .ret))))
theorem fn_df_EqualFunc : Fn Tryz.prog 38 32 [.t 6] s_df_EqualFunc:=.of Tryz.func38 (by kernel_rfl)
def s_ev_sameDef : SCode :=
  (jq ([.a 2 (.box 48 (.t 0)),.a 3 (.box 48 (.t 1)),.a 4 (.mv kF)]) (jq ((ap [jo 5 0 2,jl 6 5,jo 7 0 3,jl 8 7,.a 9 (.call (kC 71) [(.t 6),(.t
 8)])] (ap [jm 10 9,gO 11 1 2 10 true] (ap [gL 12 11 10 true,gO 13 1 3 10 true,gL 14 13 10 true,jG 15 (.bin .eql (.t 12) (.t 14)) 10 true] (ap [.a
 16 (.pick (.t 10) (.t 15) kF),jm 17 16,gO 18 2 2 17 true] (ap [gL 19 18 17 true,gO 20 2 3 17 true,gL 21 20 17 true,jG 22 (.bin .eql (.t 19) (.t
 21)) 17 true] [.a 23 (.pick (.t 17) (.t 22) kF),jm 4 23])))))) .ret))
theorem fn_ev_sameDef : Fn Tryz.prog 39 24 [.t 4] s_ev_sameDef:=.of Tryz.func39 (by kernel_rfl)
def s_bytes_Equal : SCode :=
  (jq ([.a 4 (.mv kF)]) (jq ((ap [jm 5 0,.a 6 (.b2s (.t 5)),jm 7 1,.a 8 (.b2s (.t 7)),jB 9 .eql 6 8] [jm 4 9])) .ret))
theorem fn_bytes_Equal : Fn Tryz.prog 40 10 [.t 4] s_bytes_Equal:=.of Tryz.func40 (by kernel_rfl)
def s_int_Equal : SCode :=
  (jq ([.a 4 (.mv kF)]) (.seq (jq ([jm 6 0,je 7 6,jm 8 1,je 9 8,jB 10 .neq 7 9]) (jc 10 (jq ([.a 4 (.mv kF)]) .ret) .skip)) (.seq (jq ([jm 11 0,je
 12 11,jk 13 0]) (.block 0 (.loop (jq ([jB 14 .lss 13 12]) (.seq (jc 14 .skip (.exit 0)) (.seq (.block 1 (jq ([jm 15 13,jm 5 15]) (.seq (.drw [jm 16
 0,jm 17 5,jx 18 1 16 17,jl 19 18,jm 20 1,jm 21 5,jx 22 1 20 21,jl 23 22,jB 24 .neq 19 23] [0,0,3,7,0,0,48,112,255]) (jc 24 (jq ([.a 4
 (.mv kF)]) .ret) .skip)))) (.ops [jb 25 .add 13 1,jm 13 25]))))))) (jq ([.a 4 (.mv kT)]) .ret))))
theorem fn_int_Equal : Fn Tryz.prog 71 26 [.t 4] s_int_Equal:=.of Tryz.func71 (by kernel_rfl)
set_option maxHeartbeats 4000000
noncomputable def eqB {α : Type} (a b : α) : Bool:=@decide (a = b) (Classical.propDecidable _)
theorem eqB_t {α : Type} {a b : α} (h : a = b) : eqB a b = true:=by simp [eqB,h]
theorem eqB_f {α : Type} {a b : α} (h : ¬ a = b) : eqB a b = false:=by simp [eqB,h]
theorem eqB_len {α : Type} {a b : List α} (h : ¬ (a.length : Int) = b.length) : eqB a b = false:=eqB_f fun e=>h (by rw [e])
theorem eqB_end {α : Type} {a b : List α} {i : Nat} (hl : (a.length : Int) = b.length) (h : a.take i = b.take i) (hi : ¬ (i : Int) < a.length) : eqB a b = true:=eqB_t (by
  rwa [List.take_of_length_le (by omega),List.take_of_length_le (by omega)] at h)
theorem take_step {α : Type} [Inhabited α] {a b : List α} {i : Nat} (hl : (a.length : Int) = b.length) (hi : i < a.length) (h : a.take i = b.take i) (e : gt a i = gt b i) : a.take (i + 1) = b.take (i + 1):=by
  rw [List.take_succ_eq_append_getElem hi,List.take_succ_eq_append_getElem (by omega),h,← gt_eq hi,← gt_eq (by omega),e]
theorem eqB_at {α : Type} [Inhabited α] {a b : List α} {i : Nat} (e : ¬ gt a i = gt b i) : eqB a b = false:=eqB_f fun h=>e (by rw [h])
theorem c_nd_EqualFunc (l m : List Nn) (g : FuncId) (hl : l.length ≤ 1000000) (hm : m.length ≤ 1000000)
    (hf : ∀ x ∈ l,∀ y ∈ m,Con Tryz.prog g [.ag (x.cs.map .f),.ag (y.cs.map .f)] [] fun r H'=>r = D.bool (eqB x y) ∧ H' = []) :
    Con Tryz.prog 18 [.f (fNn l),.f (fNn m),.fn g []] [] fun r H'=>r = D.bool (eqB l m) ∧ H' = []:=by
  refine Con.walk good fn_nd_EqualFunc (by simp) ?_
  unfold s_nd_EqualFunc
  simp only [argsE]
  by_cases hlm : (l.length : Int) = m.length
  rotate_left
  · repeat' (first|(with_reducible first|refine Wx.h ?_|refine Wb.h fun K hK=>?_|(refine hK _ ?_;clear hK K)|(refine wT ?_ ?_;· assumption)|(refine wF ?_ ?_;· assumption))|((with_reducible refine kQ ?_ ?_);kernel_rfl)|((with_reducible refine k1 ?_ ?_);rfl)|((with_reducible refine k0 ?_ ?_);rfl)|((with_reducible apply kB)<;>first|rfl|intro h)|((with_reducible refine kM ?_ ?_);rfl)|(with_reducible refine Wq.h ?_ ?_)<;>intro h<;>try (exfalso;omega)|(with_reducible refine Wu.h ?_ ?_)<;>intro h<;>try simp only [h]|((fail_if_success with_reducible refine Wz.h ?_);first|simp (disch:=omega) only [↓LD,LA,loadA_rf,seval,LSt]|((with_reducible refine And.intro ?_ ?_);omega)|simp only [D.int,D.bool]))
    rw [eqB_len hlm]
    exact end1 rfl rfl (by kernel_rfl) .f ⟨rfl,rfl⟩
  repeat' (first|(with_reducible first|refine Wx.h ?_|refine Wb.h fun K hK=>?_|(refine hK _ ?_;clear hK K)|(refine wT ?_ ?_;· assumption)|(refine wF ?_ ?_;· assumption))|((with_reducible refine kQ ?_ ?_);kernel_rfl)|((with_reducible refine k1 ?_ ?_);rfl)|((with_reducible refine k0 ?_ ?_);rfl)|((with_reducible apply kB)<;>first|rfl|intro h)|((with_reducible refine kM ?_ ?_);rfl)|(with_reducible refine Wq.h ?_ ?_)<;>intro h<;>try (exfalso;omega)|(with_reducible refine Wu.h ?_ ?_)<;>intro h<;>try simp only [h]|((fail_if_success with_reducible refine Wz.h ?_);first|simp (disch:=omega) only [↓LD,LA,loadA_rf,seval,LSt]|((with_reducible refine And.intro ?_ ?_);omega)|simp only [D.int,D.bool]))
  refine HS.loopG [1,2,15,16,17] (fun i : Nat=>⟨frm 32 [(1,.f (fNn m)),(2,.fn g []),(15,.f (fNn l)),(16,D.int l.length),(17,D.int i)],[],[]⟩) (fun i=>i ≤ l.length ∧ l.take i = m.take i) (fun i=>l.length - i) 0 (by kernel_rfl) ⟨Nat.zero_le _,rfl⟩ ?_
  rintro i ⟨hi,ht⟩
  by_cases hil : i < l.length
  · repeat' (first|(with_reducible first|refine Wx.h ?_|refine Wb.h fun K hK=>?_|(refine hK _ ?_;clear hK K)|(refine wT ?_ ?_;· assumption)|(refine wF ?_ ?_;· assumption))|((with_reducible refine kQ ?_ ?_);kernel_rfl)|((with_reducible refine k1 ?_ ?_);rfl)|((with_reducible refine k0 ?_ ?_);rfl)|((with_reducible apply kB)<;>first|rfl|intro h)|((with_reducible refine kM ?_ ?_);rfl)|(with_reducible refine Wq.h ?_ ?_)<;>intro h<;>try (exfalso;omega)|(with_reducible refine Wu.h ?_ ?_)<;>intro h<;>try simp only [h]|((fail_if_success with_reducible refine Wz.h ?_);first|simp (disch:=omega) only [↓LD,LA,loadA_rf,seval,LSt,load_fNn,len_fNn,Nn.cs,-loadA_rf]|((with_reducible refine And.intro ?_ ?_);omega)|simp only [D.int,D.bool]))
    refine callW_pure (hf _ (gt_mem hil) _ (gt_mem (l:=m) (k:=i) (by omega))) rfl rfl rfl ?_
    by_cases e : gt l i = gt m i
    · rw [eqB_t e]
      repeat' (first|(with_reducible first|refine Wx.h ?_|refine Wb.h fun K hK=>?_|(refine hK _ ?_;clear hK K)|(refine wT ?_ ?_;· assumption)|(refine wF ?_ ?_;· assumption))|((with_reducible refine kQ ?_ ?_);kernel_rfl)|((with_reducible refine k1 ?_ ?_);rfl)|((with_reducible refine k0 ?_ ?_);rfl)|((with_reducible apply kB)<;>first|rfl|intro h)|((with_reducible refine kM ?_ ?_);rfl)|(with_reducible refine Wq.h ?_ ?_)<;>intro h<;>try (exfalso;omega)|(with_reducible refine Wu.h ?_ ?_)<;>intro h<;>try simp only [h]|((fail_if_success with_reducible refine Wz.h ?_);first|simp (disch:=omega) only [↓LD,LA,loadA_rf,seval,LSt]|((with_reducible refine And.intro ?_ ?_);omega)|simp only [D.int,D.bool]))
      exact Next.mk (i + 1) (by kernel_rfl) ⟨by omega,take_step hlm hil ht e⟩ (by omega)
    · rw [eqB_f e]
      repeat' (first|(with_reducible first|refine Wx.h ?_|refine Wb.h fun K hK=>?_|(refine hK _ ?_;clear hK K)|(refine wT ?_ ?_;· assumption)|(refine wF ?_ ?_;· assumption))|((with_reducible refine kQ ?_ ?_);kernel_rfl)|((with_reducible refine k1 ?_ ?_);rfl)|((with_reducible refine k0 ?_ ?_);rfl)|((with_reducible apply kB)<;>first|rfl|intro h)|((with_reducible refine kM ?_ ?_);rfl)|(with_reducible refine Wq.h ?_ ?_)<;>intro h<;>try (exfalso;omega)|(with_reducible refine Wu.h ?_ ?_)<;>intro h<;>try simp only [h]|((fail_if_success with_reducible refine Wz.h ?_);first|simp (disch:=omega) only [↓LD,LA,loadA_rf,seval,LSt]|((with_reducible refine And.intro ?_ ?_);omega)|simp only [D.int,D.bool]))
      rw [eqB_at e]
      exact end1 rfl rfl (by kernel_rfl) .f ⟨rfl,rfl⟩
  · repeat' (first|(with_reducible first|refine Wx.h ?_|refine Wb.h fun K hK=>?_|(refine hK _ ?_;clear hK K)|(refine wT ?_ ?_;· assumption)|(refine wF ?_ ?_;· assumption))|((with_reducible refine kQ ?_ ?_);kernel_rfl)|((with_reducible refine k1 ?_ ?_);rfl)|((with_reducible refine k0 ?_ ?_);rfl)|((with_reducible apply kB)<;>first|rfl|intro h)|((with_reducible refine kM ?_ ?_);rfl)|(with_reducible refine Wq.h ?_ ?_)<;>intro h<;>try (exfalso;omega)|(with_reducible refine Wu.h ?_ ?_)<;>intro h<;>try simp only [h]|((fail_if_success with_reducible refine Wz.h ?_);first|simp (disch:=omega) only [↓LD,LA,loadA_rf,seval,LSt]|((with_reducible refine And.intro ?_ ?_);omega)|simp only [D.int,D.bool]))
    rw [eqB_end hlm ht (by omega)]
    exact end1 rfl rfl (by kernel_rfl) .f ⟨rfl,rfl⟩
theorem c_sg_EqualFunc (l m : List Sg) (g : FuncId) (hl : l.length ≤ 1000000) (hm : m.length ≤ 1000000)
    (hf : ∀ x ∈ l,∀ y ∈ m,Con Tryz.prog g [.ag (x.cs.map .f),.ag (y.cs.map .f)] [] fun r H'=>r = D.bool (eqB x y) ∧ H' = []) :
    Con Tryz.prog 21 [.f (fSg l),.f (fSg m),.fn g []] [] fun r H'=>r = D.bool (eqB l m) ∧ H' = []:=by
  refine Con.walk good fn_sg_EqualFunc (by simp) ?_
  unfold s_sg_EqualFunc
  simp only [argsE]
  by_cases hlm : (l.length : Int) = m.length
  rotate_left
  · repeat' (first|(with_reducible first|refine Wx.h ?_|refine Wb.h fun K hK=>?_|(refine hK _ ?_;clear hK K)|(refine wT ?_ ?_;· assumption)|(refine wF ?_ ?_;· assumption))|((with_reducible refine kQ ?_ ?_);kernel_rfl)|((with_reducible refine k1 ?_ ?_);rfl)|((with_reducible refine k0 ?_ ?_);rfl)|((with_reducible apply kB)<;>first|rfl|intro h)|((with_reducible refine kM ?_ ?_);rfl)|(with_reducible refine Wq.h ?_ ?_)<;>intro h<;>try (exfalso;omega)|(with_reducible refine Wu.h ?_ ?_)<;>intro h<;>try simp only [h]|((fail_if_success with_reducible refine Wz.h ?_);first|simp (disch:=omega) only [↓LD,LA,loadA_rf,seval,LSt]|((with_reducible refine And.intro ?_ ?_);omega)|simp only [D.int,D.bool]))
    rw [eqB_len hlm]
    exact end1 rfl rfl (by kernel_rfl) .f ⟨rfl,rfl⟩
  repeat' (first|(with_reducible first|refine Wx.h ?_|refine Wb.h fun K hK=>?_|(refine hK _ ?_;clear hK K)|(refine wT ?_ ?_;· assumption)|(refine wF ?_ ?_;· assumption))|((with_reducible refine kQ ?_ ?_);kernel_rfl)|((with_reducible refine k1 ?_ ?_);rfl)|((with_reducible refine k0 ?_ ?_);rfl)|((with_reducible apply kB)<;>first|rfl|intro h)|((with_reducible refine kM ?_ ?_);rfl)|(with_reducible refine Wq.h ?_ ?_)<;>intro h<;>try (exfalso;omega)|(with_reducible refine Wu.h ?_ ?_)<;>intro h<;>try simp only [h]|((fail_if_success with_reducible refine Wz.h ?_);first|simp (disch:=omega) only [↓LD,LA,loadA_rf,seval,LSt]|((with_reducible refine And.intro ?_ ?_);omega)|simp only [D.int,D.bool]))
  refine HS.loopG [1,2,15,16,17] (fun i : Nat=>⟨frm 32 [(1,.f (fSg m)),(2,.fn g []),(15,.f (fSg l)),(16,D.int l.length),(17,D.int i)],[],[]⟩) (fun i=>i ≤ l.length ∧ l.take i = m.take i) (fun i=>l.length - i) 0 (by kernel_rfl) ⟨Nat.zero_le _,rfl⟩ ?_
  rintro i ⟨hi,ht⟩
  by_cases hil : i < l.length
  · repeat' (first|(with_reducible first|refine Wx.h ?_|refine Wb.h fun K hK=>?_|(refine hK _ ?_;clear hK K)|(refine wT ?_ ?_;· assumption)|(refine wF ?_ ?_;· assumption))|((with_reducible refine kQ ?_ ?_);kernel_rfl)|((with_reducible refine k1 ?_ ?_);rfl)|((with_reducible refine k0 ?_ ?_);rfl)|((with_reducible apply kB)<;>first|rfl|intro h)|((with_reducible refine kM ?_ ?_);rfl)|(with_reducible refine Wq.h ?_ ?_)<;>intro h<;>try (exfalso;omega)|(with_reducible refine Wu.h ?_ ?_)<;>intro h<;>try simp only [h]|((fail_if_success with_reducible refine Wz.h ?_);first|simp (disch:=omega) only [↓LD,LA,loadA_rf,seval,LSt,load_fSg,len_fSg,Sg.cs,-loadA_rf]|((with_reducible refine And.intro ?_ ?_);omega)|simp only [D.int,D.bool]))
    refine callW_pure (hf _ (gt_mem hil) _ (gt_mem (l:=m) (k:=i) (by omega))) rfl rfl rfl ?_
    by_cases e : gt l i = gt m i
    · rw [eqB_t e]
      repeat' (first|(with_reducible first|refine Wx.h ?_|refine Wb.h fun K hK=>?_|(refine hK _ ?_;clear hK K)|(refine wT ?_ ?_;· assumption)|(refine wF ?_ ?_;· assumption))|((with_reducible refine kQ ?_ ?_);kernel_rfl)|((with_reducible refine k1 ?_ ?_);rfl)|((with_reducible refine k0 ?_ ?_);rfl)|((with_reducible apply kB)<;>first|rfl|intro h)|((with_reducible refine kM ?_ ?_);rfl)|(with_reducible refine Wq.h ?_ ?_)<;>intro h<;>try (exfalso;omega)|(with_reducible refine Wu.h ?_ ?_)<;>intro h<;>try simp only [h]|((fail_if_success with_reducible refine Wz.h ?_);first|simp (disch:=omega) only [↓LD,LA,loadA_rf,seval,LSt]|((with_reducible refine And.intro ?_ ?_);omega)|simp only [D.int,D.bool]))
      exact Next.mk (i + 1) (by kernel_rfl) ⟨by omega,take_step hlm hil ht e⟩ (by omega)
    · rw [eqB_f e]
      repeat' (first|(with_reducible first|refine Wx.h ?_|refine Wb.h fun K hK=>?_|(refine hK _ ?_;clear hK K)|(refine wT ?_ ?_;· assumption)|(refine wF ?_ ?_;· assumption))|((with_reducible refine kQ ?_ ?_);kernel_rfl)|((with_reducible refine k1 ?_ ?_);rfl)|((with_reducible refine k0 ?_ ?_);rfl)|((with_reducible apply kB)<;>first|rfl|intro h)|((with_reducible refine kM ?_ ?_);rfl)|(with_reducible refine Wq.h ?_ ?_)<;>intro h<;>try (exfalso;omega)|(with_reducible refine Wu.h ?_ ?_)<;>intro h<;>try simp only [h]|((fail_if_success with_reducible refine Wz.h ?_);first|simp (disch:=omega) only [↓LD,LA,loadA_rf,seval,LSt]|((with_reducible refine And.intro ?_ ?_);omega)|simp only [D.int,D.bool]))
      rw [eqB_at e]
      exact end1 rfl rfl (by kernel_rfl) .f ⟨rfl,rfl⟩
  · repeat' (first|(with_reducible first|refine Wx.h ?_|refine Wb.h fun K hK=>?_|(refine hK _ ?_;clear hK K)|(refine wT ?_ ?_;· assumption)|(refine wF ?_ ?_;· assumption))|((with_reducible refine kQ ?_ ?_);kernel_rfl)|((with_reducible refine k1 ?_ ?_);rfl)|((with_reducible refine k0 ?_ ?_);rfl)|((with_reducible apply kB)<;>first|rfl|intro h)|((with_reducible refine kM ?_ ?_);rfl)|(with_reducible refine Wq.h ?_ ?_)<;>intro h<;>try (exfalso;omega)|(with_reducible refine Wu.h ?_ ?_)<;>intro h<;>try simp only [h]|((fail_if_success with_reducible refine Wz.h ?_);first|simp (disch:=omega) only [↓LD,LA,loadA_rf,seval,LSt]|((with_reducible refine And.intro ?_ ?_);omega)|simp only [D.int,D.bool]))
    rw [eqB_end hlm ht (by omega)]
    exact end1 rfl rfl (by kernel_rfl) .f ⟨rfl,rfl⟩
theorem eqS_bb {a b : Bs} : ((BB a).toList == (BB b).toList) = eqB a b:=by
  by_cases e : a = b
  · subst e;rw [eqB_t rfl];simp
  · rw [eqB_f e,beq_eq_false_iff_ne]
    intro h
    rw [ByteArray.toList_eq,ByteArray.toList_eq] at h
    exact e (by simpa [BB] using h)
theorem eqL_tm {x y : Tm} : eqL [1,0,2] [.f (.v (.string (BB x.name))),.f (.v (.int .i64 x.due)),.f (.v (.bool x.fired))] [.f (.v (.string (BB y.name))),.f (.v (.int .i64 y.due)),.f (.v (.bool y.fired))] = some (eqB x y):=by
  simp only [eqL,eqV,eqS_bb,if_true,Bool.and_true]
  obtain ⟨a1,a2,a3⟩:=x
  obtain ⟨b1,b2,b3⟩:=y
  congr 1
  by_cases e : (⟨a1,a2,a3⟩ : Tm) = ⟨b1,b2,b3⟩
  · rw [eqB_t e];cases e;simp [eqB_t]
  · rw [eqB_f e]
    by_cases e1 : a1 = b1
    · by_cases e2 : a2 = b2
      · have e3 : ¬ a3 = b3:=fun e3=>e (by rw [e1,e2,e3])
        simp [e3]
      · simp [e2]
    · simp [eqB_f e1]
theorem c_tm_Equal (l m : List Tm) (hl : l.length ≤ 1000000) (hm : m.length ≤ 1000000) : Con Tryz.prog 20 [.f (fTm l),.f (fTm m)] [] fun r H'=>r = D.bool (eqB l m) ∧ H' = []:=by
  refine Con.walk good fn_tm_Equal (by simp) ?_
  unfold s_tm_Equal
  simp only [argsE]
  by_cases hlm : (l.length : Int) = m.length
  rotate_left
  · repeat' (first|(with_reducible first|refine Wx.h ?_|refine Wb.h fun K hK=>?_|(refine hK _ ?_;clear hK K)|(refine wT ?_ ?_;· assumption)|(refine wF ?_ ?_;· assumption))|((with_reducible refine kQ ?_ ?_);kernel_rfl)|((with_reducible refine k1 ?_ ?_);rfl)|((with_reducible refine k0 ?_ ?_);rfl)|((with_reducible apply kB)<;>first|rfl|intro h)|((with_reducible refine kM ?_ ?_);rfl)|(with_reducible refine Wq.h ?_ ?_)<;>intro h<;>try (exfalso;omega)|(with_reducible refine Wu.h ?_ ?_)<;>intro h<;>try simp only [h]|((fail_if_success with_reducible refine Wz.h ?_);first|simp (disch:=omega) only [↓LD,LA,loadA_rf,seval,LSt]|((with_reducible refine And.intro ?_ ?_);omega)|simp only [D.int,D.bool]))
    rw [eqB_len hlm]
    exact end1 rfl rfl (by kernel_rfl) .f ⟨rfl,rfl⟩
  repeat' (first|(with_reducible first|refine Wx.h ?_|refine Wb.h fun K hK=>?_|(refine hK _ ?_;clear hK K)|(refine wT ?_ ?_;· assumption)|(refine wF ?_ ?_;· assumption))|((with_reducible refine kQ ?_ ?_);kernel_rfl)|((with_reducible refine k1 ?_ ?_);rfl)|((with_reducible refine k0 ?_ ?_);rfl)|((with_reducible apply kB)<;>first|rfl|intro h)|((with_reducible refine kM ?_ ?_);rfl)|(with_reducible refine Wq.h ?_ ?_)<;>intro h<;>try (exfalso;omega)|(with_reducible refine Wu.h ?_ ?_)<;>intro h<;>try simp only [h]|((fail_if_success with_reducible refine Wz.h ?_);first|simp (disch:=omega) only [↓LD,LA,loadA_rf,seval,LSt]|((with_reducible refine And.intro ?_ ?_);omega)|simp only [D.int,D.bool]))
  refine HS.loopG [0,1,12,13] (fun i : Nat=>⟨frm 26 [(0,.f (fTm l)),(1,.f (fTm m)),(12,D.int l.length),(13,D.int i)],[],[]⟩) (fun i=>i ≤ l.length ∧ l.take i = m.take i) (fun i=>l.length - i) 0 (by kernel_rfl) ⟨Nat.zero_le _,rfl⟩ ?_
  rintro i ⟨hi,ht⟩
  by_cases hil : i < l.length
  · by_cases e : gt l i = gt m i
    · have hb:=eqB_t e
      repeat' (first|(with_reducible first|refine Wx.h ?_|refine We.h fun K hK=>?_|refine Wd.h fun K M hK hM=>?_|(refine hK _ _ _ _ ?_;clear hK K;try clear hM M)|(refine hM ?_;clear hM M;try clear hK K)|refine Wb.h fun K hK=>?_|(refine hK _ ?_;clear hK K)|(refine wT ?_ ?_;· assumption)|(refine wF ?_ ?_;· assumption))|((with_reducible refine kQ ?_ ?_);kernel_rfl)|((with_reducible refine k1 ?_ ?_);rfl)|((with_reducible refine k0 ?_ ?_);rfl)|((with_reducible apply kB)<;>first|rfl|intro h)|((with_reducible refine kM ?_ ?_);rfl)|(with_reducible refine Wq.h ?_ ?_)<;>intro h<;>try (exfalso;omega)|(with_reducible refine Wu.h ?_ ?_)<;>intro h<;>try simp only [h]|((fail_if_success with_reducible refine Wz.h ?_);first|simp (disch:=omega) only [↓LD,LA,loadA_rf,seval,LSt,load_fTm,len_fTm,Tm.cs,eqL_tm,hb,Bool.not_true,-loadA_rf]|((with_reducible refine And.intro ?_ ?_);omega)|simp only [D.int,D.bool]))
      exact Next.mk (i + 1) (by kernel_rfl) ⟨by omega,take_step hlm hil ht e⟩ (by omega)
    · have hb:=eqB_f e
      repeat' (first|(with_reducible first|refine Wx.h ?_|refine We.h fun K hK=>?_|refine Wd.h fun K M hK hM=>?_|(refine hK _ _ _ _ ?_;clear hK K;try clear hM M)|(refine hM ?_;clear hM M;try clear hK K)|refine Wb.h fun K hK=>?_|(refine hK _ ?_;clear hK K)|(refine wT ?_ ?_;· assumption)|(refine wF ?_ ?_;· assumption))|((with_reducible refine kQ ?_ ?_);kernel_rfl)|((with_reducible refine k1 ?_ ?_);rfl)|((with_reducible refine k0 ?_ ?_);rfl)|((with_reducible apply kB)<;>first|rfl|intro h)|((with_reducible refine kM ?_ ?_);rfl)|(with_reducible refine Wq.h ?_ ?_)<;>intro h<;>try (exfalso;omega)|(with_reducible refine Wu.h ?_ ?_)<;>intro h<;>try simp only [h]|((fail_if_success with_reducible refine Wz.h ?_);first|simp (disch:=omega) only [↓LD,LA,loadA_rf,seval,LSt,load_fTm,len_fTm,Tm.cs,eqL_tm,hb,Bool.not_false,-loadA_rf]|((with_reducible refine And.intro ?_ ?_);omega)|simp only [D.int,D.bool]))
      rw [eqB_at e]
      exact end1 rfl rfl (by kernel_rfl) .f ⟨rfl,rfl⟩
  · repeat' (first|(with_reducible first|refine Wx.h ?_|refine Wb.h fun K hK=>?_|(refine hK _ ?_;clear hK K)|(refine wT ?_ ?_;· assumption)|(refine wF ?_ ?_;· assumption))|((with_reducible refine kQ ?_ ?_);kernel_rfl)|((with_reducible refine k1 ?_ ?_);rfl)|((with_reducible refine k0 ?_ ?_);rfl)|((with_reducible apply kB)<;>first|rfl|intro h)|((with_reducible refine kM ?_ ?_);rfl)|(with_reducible refine Wq.h ?_ ?_)<;>intro h<;>try (exfalso;omega)|(with_reducible refine Wu.h ?_ ?_)<;>intro h<;>try simp only [h]|((fail_if_success with_reducible refine Wz.h ?_);first|simp (disch:=omega) only [↓LD,LA,loadA_rf,seval,LSt]|((with_reducible refine And.intro ?_ ?_);omega)|simp only [D.int,D.bool]))
    rw [eqB_end hlm ht (by omega)]
    exact end1 rfl rfl (by kernel_rfl) .f ⟨rfl,rfl⟩
set_option maxHeartbeats 4000000
theorem c_int_Equal (l m : List Int) (hl : l.length ≤ 1000000) (hm : m.length ≤ 1000000) : Con Tryz.prog 71 [.f (fI l),.f (fI m)] [] fun r H'=>r = D.bool (eqB l m) ∧ H' = []:=by
  refine Con.walk good fn_int_Equal (by simp) ?_
  unfold s_int_Equal
  simp only [argsE]
  by_cases hlm : (l.length : Int) = m.length
  rotate_left
  · repeat' (first|(with_reducible first|refine Wx.h ?_|refine Wb.h fun K hK=>?_|(refine hK _ ?_;clear hK K)|(refine wT ?_ ?_;· assumption)|(refine wF ?_ ?_;· assumption))|((with_reducible refine kQ ?_ ?_);kernel_rfl)|((with_reducible refine k1 ?_ ?_);rfl)|((with_reducible refine k0 ?_ ?_);rfl)|((with_reducible apply kB)<;>first|rfl|intro h)|((with_reducible refine kM ?_ ?_);rfl)|(with_reducible refine Wq.h ?_ ?_)<;>intro h<;>try (exfalso;omega)|(with_reducible refine Wu.h ?_ ?_)<;>intro h<;>try simp only [h]|((fail_if_success with_reducible refine Wz.h ?_);first|simp (disch:=omega) only [↓LD,LA,loadA_rf,seval,LSt]|((with_reducible refine And.intro ?_ ?_);omega)|simp only [D.int,D.bool]))
    rw [eqB_len hlm]
    exact end1 rfl rfl (by kernel_rfl) .f ⟨rfl,rfl⟩
  repeat' (first|(with_reducible first|refine Wx.h ?_|refine Wb.h fun K hK=>?_|(refine hK _ ?_;clear hK K)|(refine wT ?_ ?_;· assumption)|(refine wF ?_ ?_;· assumption))|((with_reducible refine kQ ?_ ?_);kernel_rfl)|((with_reducible refine k1 ?_ ?_);rfl)|((with_reducible refine k0 ?_ ?_);rfl)|((with_reducible apply kB)<;>first|rfl|intro h)|((with_reducible refine kM ?_ ?_);rfl)|(with_reducible refine Wq.h ?_ ?_)<;>intro h<;>try (exfalso;omega)|(with_reducible refine Wu.h ?_ ?_)<;>intro h<;>try simp only [h]|((fail_if_success with_reducible refine Wz.h ?_);first|simp (disch:=omega) only [↓LD,LA,loadA_rf,seval,LSt]|((with_reducible refine And.intro ?_ ?_);omega)|simp only [D.int,D.bool]))
  refine HS.loopG [0,1,12,13] (fun i : Nat=>⟨frm 26 [(0,.f (fI l)),(1,.f (fI m)),(12,D.int l.length),(13,D.int i)],[],[]⟩) (fun i=>i ≤ l.length ∧ l.take i = m.take i) (fun i=>l.length - i) 0 (by kernel_rfl) ⟨Nat.zero_le _,rfl⟩ ?_
  rintro i ⟨hi,ht⟩
  by_cases hil : i < l.length
  · by_cases e : gt l i = gt m i
    · repeat' (first|(with_reducible first|refine Wx.h ?_|refine We.h fun K hK=>?_|refine Wd.h fun K M hK hM=>?_|(refine hK _ _ _ _ ?_;clear hK K;try clear hM M)|(refine hM ?_;clear hM M;try clear hK K)|refine Wb.h fun K hK=>?_|(refine hK _ ?_;clear hK K)|(refine wT ?_ ?_;· assumption)|(refine wF ?_ ?_;· assumption))|((with_reducible refine kQ ?_ ?_);kernel_rfl)|((with_reducible refine k1 ?_ ?_);rfl)|((with_reducible refine k0 ?_ ?_);rfl)|((with_reducible apply kB)<;>first|rfl|intro h)|((with_reducible refine kM ?_ ?_);rfl)|(with_reducible refine Wq.h ?_ ?_)<;>intro h<;>try (exfalso;omega)|(with_reducible refine Wu.h ?_ ?_)<;>intro h<;>try simp only [h]|((fail_if_success with_reducible refine Wz.h ?_);first|simp (disch:=omega) only [↓LD,LA,loadA_rf,seval,LSt]|((with_reducible refine And.intro ?_ ?_);omega)|simp only [D.int,D.bool]))
      exact Next.mk (i + 1) (by kernel_rfl) ⟨by omega,take_step hlm hil ht e⟩ (by omega)
    · repeat' (first|(with_reducible first|refine Wx.h ?_|refine We.h fun K hK=>?_|refine Wd.h fun K M hK hM=>?_|(refine hK _ _ _ _ ?_;clear hK K;try clear hM M)|(refine hM ?_;clear hM M;try clear hK K)|refine Wb.h fun K hK=>?_|(refine hK _ ?_;clear hK K)|(refine wT ?_ ?_;· assumption)|(refine wF ?_ ?_;· assumption))|((with_reducible refine kQ ?_ ?_);kernel_rfl)|((with_reducible refine k1 ?_ ?_);rfl)|((with_reducible refine k0 ?_ ?_);rfl)|((with_reducible apply kB)<;>first|rfl|intro h)|((with_reducible refine kM ?_ ?_);rfl)|(with_reducible refine Wq.h ?_ ?_)<;>intro h<;>try (exfalso;omega)|(with_reducible refine Wu.h ?_ ?_)<;>intro h<;>try simp only [h]|((fail_if_success with_reducible refine Wz.h ?_);first|simp (disch:=omega) only [↓LD,LA,loadA_rf,seval,LSt]|((with_reducible refine And.intro ?_ ?_);omega)|simp only [D.int,D.bool]))
      rw [eqB_at e]
      exact end1 rfl rfl (by kernel_rfl) .f ⟨rfl,rfl⟩
  · repeat' (first|(with_reducible first|refine Wx.h ?_|refine Wb.h fun K hK=>?_|(refine hK _ ?_;clear hK K)|(refine wT ?_ ?_;· assumption)|(refine wF ?_ ?_;· assumption))|((with_reducible refine kQ ?_ ?_);kernel_rfl)|((with_reducible refine k1 ?_ ?_);rfl)|((with_reducible refine k0 ?_ ?_);rfl)|((with_reducible apply kB)<;>first|rfl|intro h)|((with_reducible refine kM ?_ ?_);rfl)|(with_reducible refine Wq.h ?_ ?_)<;>intro h<;>try (exfalso;omega)|(with_reducible refine Wu.h ?_ ?_)<;>intro h<;>try simp only [h]|((fail_if_success with_reducible refine Wz.h ?_);first|simp (disch:=omega) only [↓LD,LA,loadA_rf,seval,LSt]|((with_reducible refine And.intro ?_ ?_);omega)|simp only [D.int,D.bool]))
    rw [eqB_end hlm ht (by omega)]
    exact end1 rfl rfl (by kernel_rfl) .f ⟨rfl,rfl⟩
theorem c_bytes_Equal (a b : Bs) (ha : a.length ≤ 1000000) (hb : b.length ≤ 1000000) : Con Tryz.prog 40 [.f (fY a),.f (fY b)] [] fun r H'=>r = D.bool (eqB a b) ∧ H' = []:=by
  refine Con.walk good fn_bytes_Equal (by simp) ?_
  unfold s_bytes_Equal
  simp only [argsE]
  by_cases e : a = b
  · rw [eqB_t e]
    repeat' (first|(with_reducible first|refine Wx.h ?_|refine Wb.h fun K hK=>?_|(refine hK _ ?_;clear hK K)|(refine wT ?_ ?_;· assumption)|(refine wF ?_ ?_;· assumption))|((with_reducible refine kQ ?_ ?_);kernel_rfl)|((with_reducible refine k1 ?_ ?_);rfl)|((with_reducible refine k0 ?_ ?_);rfl)|((with_reducible apply kB)<;>first|rfl|intro h)|((with_reducible refine kM ?_ ?_);rfl)|(with_reducible refine Wq.h ?_ ?_)<;>intro h<;>try (exfalso;omega)|(with_reducible refine Wu.h ?_ ?_)<;>intro h<;>try simp only [h]|((fail_if_success with_reducible refine Wz.h ?_);first|simp (disch:=omega) only [↓LD,LA,loadA_rf,seval,bytes_map,e]|((with_reducible refine And.intro ?_ ?_);omega)|simp only [D.int,D.bool]))
    exact end1 rfl rfl (by kernel_rfl) .f ⟨rfl,rfl⟩
  · rw [eqB_f e]
    repeat' (first|(with_reducible first|refine Wx.h ?_|refine Wb.h fun K hK=>?_|(refine hK _ ?_;clear hK K)|(refine wT ?_ ?_;· assumption)|(refine wF ?_ ?_;· assumption))|((with_reducible refine kQ ?_ ?_);kernel_rfl)|((with_reducible refine k1 ?_ ?_);rfl)|((with_reducible refine k0 ?_ ?_);rfl)|((with_reducible apply kB)<;>first|rfl|intro h)|((with_reducible refine kM ?_ ?_);rfl)|(with_reducible refine Wq.h ?_ ?_)<;>intro h<;>try (exfalso;omega)|(with_reducible refine Wu.h ?_ ?_)<;>intro h<;>try simp only [h]|((fail_if_success with_reducible refine Wz.h ?_);first|simp (disch:=omega) only [↓LD,LA,loadA_rf,seval,bytes_map,e]|((with_reducible refine And.intro ?_ ?_);omega)|simp only [D.int,D.bool]))
    · exact absurd (Eq.mp bb_inj h) e
    · exact end1 rfl rfl (by kernel_rfl) .f ⟨rfl,rfl⟩
instance {a b : Bs} {H : List Row} {K : D → List Row → Prop} [ha : Kn (a.length ≤ 1000000)] [hb : Kn (b.length ≤ 1000000)] : Wa (callW Tryz.prog (.fn 40 []) [.f (fY a),.f (fY b)] H K) (K (.f (.v (.bool (eqB a b)))) H):=⟨fun h=>callW_pure (c_bytes_Equal a b ha.h hb.h) rfl rfl rfl h⟩
theorem c_sameNode (x y : Nn) (hx : x.data.length ≤ 1000000) (hy : y.data.length ≤ 1000000) : Con Tryz.prog 19 [.ag (x.cs.map .f),.ag (y.cs.map .f)] [] fun r H'=>r = D.bool (eqB x y) ∧ H' = []:=by
  obtain ⟨a1,a2,a3,a4⟩:=x
  obtain ⟨b1,b2,b3,b4⟩:=y
  dsimp only at hx hy
  haveI : Kn (a4.length ≤ 1000000):=⟨hx⟩
  haveI : Kn (b4.length ≤ 1000000):=⟨hy⟩
  refine Con.walk good fn_st_sameNode (by simp) ?_
  unfold s_st_sameNode
  simp only [argsE]
  by_cases e4 : a4 = b4
  · have hb:=eqB_t e4
    repeat' (first|(with_reducible first|refine Wx.h ?_|refine Wb.h fun K hK=>?_|(refine hK _ ?_;clear hK K)|(refine wT ?_ ?_;· assumption)|(refine wF ?_ ?_;· assumption))|((with_reducible refine kQ ?_ ?_);kernel_rfl)|((with_reducible refine k1 ?_ ?_);rfl)|((with_reducible refine k0 ?_ ?_);rfl)|((with_reducible apply kB)<;>first|rfl|intro h)|((with_reducible refine kM ?_ ?_);rfl)|(with_reducible refine Wq.h ?_ ?_)<;>intro h<;>try (exfalso;omega)|(with_reducible refine Wu.h ?_ ?_)<;>intro h<;>try simp only [h]|((fail_if_success with_reducible refine Wz.h ?_);first|simp (disch:=omega) only [↓LD,LA,loadA_rf,seval,Nn.cs,hb]|((with_reducible refine And.intro ?_ ?_);omega)|simp only [D.int,D.bool]))
    · rw [eqB_t (by subst_vars;rfl)];exact end1 rfl rfl (by kernel_rfl) .f ⟨rfl,rfl⟩
    all_goals
      rw [eqB_f (by intro e;cases e;contradiction)];exact end1 rfl rfl (by kernel_rfl) .f ⟨rfl,rfl⟩
  · have hb:=eqB_f e4
    repeat' (first|(with_reducible first|refine Wx.h ?_|refine Wb.h fun K hK=>?_|(refine hK _ ?_;clear hK K)|(refine wT ?_ ?_;· assumption)|(refine wF ?_ ?_;· assumption))|((with_reducible refine kQ ?_ ?_);kernel_rfl)|((with_reducible refine k1 ?_ ?_);rfl)|((with_reducible refine k0 ?_ ?_);rfl)|((with_reducible apply kB)<;>first|rfl|intro h)|((with_reducible refine kM ?_ ?_);rfl)|(with_reducible refine Wq.h ?_ ?_)<;>intro h<;>try (exfalso;omega)|(with_reducible refine Wu.h ?_ ?_)<;>intro h<;>try simp only [h]|((fail_if_success with_reducible refine Wz.h ?_);first|simp (disch:=omega) only [↓LD,LA,loadA_rf,seval,Nn.cs,hb]|((with_reducible refine And.intro ?_ ?_);omega)|simp only [D.int,D.bool]))
    all_goals rw [eqB_f (fun e=>e4 (by cases e;rfl))];exact end1 rfl rfl (by kernel_rfl) .f ⟨rfl,rfl⟩
theorem c_sameSignal (x y : Sg) (hx : x.data.length ≤ 1000000) (hy : y.data.length ≤ 1000000) : Con Tryz.prog 22 [.ag (x.cs.map .f),.ag (y.cs.map .f)] [] fun r H'=>r = D.bool (eqB x y) ∧ H' = []:=by
  obtain ⟨a1,a2,a4⟩:=x
  obtain ⟨b1,b2,b4⟩:=y
  dsimp only at hx hy
  haveI : Kn (a4.length ≤ 1000000):=⟨hx⟩
  haveI : Kn (b4.length ≤ 1000000):=⟨hy⟩
  refine Con.walk good fn_st_sameSignal (by simp) ?_
  unfold s_st_sameSignal
  simp only [argsE]
  by_cases e4 : a4 = b4
  · have hb:=eqB_t e4
    repeat' (first|(with_reducible first|refine Wx.h ?_|refine Wb.h fun K hK=>?_|(refine hK _ ?_;clear hK K)|(refine wT ?_ ?_;· assumption)|(refine wF ?_ ?_;· assumption))|((with_reducible refine kQ ?_ ?_);kernel_rfl)|((with_reducible refine k1 ?_ ?_);rfl)|((with_reducible refine k0 ?_ ?_);rfl)|((with_reducible apply kB)<;>first|rfl|intro h)|((with_reducible refine kM ?_ ?_);rfl)|(with_reducible refine Wq.h ?_ ?_)<;>intro h<;>try (exfalso;omega)|(with_reducible refine Wu.h ?_ ?_)<;>intro h<;>try simp only [h]|((fail_if_success with_reducible refine Wz.h ?_);first|simp (disch:=omega) only [↓LD,LA,loadA_rf,seval,Sg.cs,hb]|((with_reducible refine And.intro ?_ ?_);omega)|simp only [D.int,D.bool]))
    · rw [eqB_t (by subst_vars;rfl)];exact end1 rfl rfl (by kernel_rfl) .f ⟨rfl,rfl⟩
    all_goals
      rw [eqB_f (by intro e;cases e;contradiction)];exact end1 rfl rfl (by kernel_rfl) .f ⟨rfl,rfl⟩
  · have hb:=eqB_f e4
    repeat' (first|(with_reducible first|refine Wx.h ?_|refine Wb.h fun K hK=>?_|(refine hK _ ?_;clear hK K)|(refine wT ?_ ?_;· assumption)|(refine wF ?_ ?_;· assumption))|((with_reducible refine kQ ?_ ?_);kernel_rfl)|((with_reducible refine k1 ?_ ?_);rfl)|((with_reducible refine k0 ?_ ?_);rfl)|((with_reducible apply kB)<;>first|rfl|intro h)|((with_reducible refine kM ?_ ?_);rfl)|(with_reducible refine Wq.h ?_ ?_)<;>intro h<;>try (exfalso;omega)|(with_reducible refine Wu.h ?_ ?_)<;>intro h<;>try simp only [h]|((fail_if_success with_reducible refine Wz.h ?_);first|simp (disch:=omega) only [↓LD,LA,loadA_rf,seval,Sg.cs,hb]|((with_reducible refine And.intro ?_ ?_);omega)|simp only [D.int,D.bool]))
    all_goals rw [eqB_f (fun e=>e4 (by cases e;rfl))];exact end1 rfl rfl (by kernel_rfl) .f ⟨rfl,rfl⟩
theorem load_fGd {H : List Row} {g : List Nd} {k : Nat} (hk : k < g.length) : loadA H 3 (.rf ((g.flatMap Nd.cs).drop (k * 3))) = some (.ag ((Nd.cs (gt g k)).map .f)):=flat_loadA Nd.cs_len hk
theorem len_fGd {g : List Nd} : (g.flatMap Nd.cs).length = g.length * 3:=flat_len' Nd.cs_len g
instance {a b : List Int} {H : List Row} {K : D → List Row → Prop} [ha : Kn (a.length ≤ 1000000)] [hb : Kn (b.length ≤ 1000000)] : Wa (callW Tryz.prog (.fn 71 []) [.f (fI a),.f (fI b)] H K) (K (.f (.v (.bool (eqB a b)))) H):=⟨fun h=>callW_pure (c_int_Equal a b ha.h hb.h) rfl rfl rfl h⟩
theorem c_sameDef (x y : Nd) (hx : x.ns.length ≤ 1000000) (hy : y.ns.length ≤ 1000000) : Con Tryz.prog 39 [.ag (x.cs.map .f),.ag (y.cs.map .f)] [] fun r H'=>r = D.bool (eqB x y) ∧ H' = []:=by
  obtain ⟨a1,a2,a3⟩:=x
  obtain ⟨b1,b2,b3⟩:=y
  dsimp only at hx hy
  haveI : Kn (a1.length ≤ 1000000):=⟨hx⟩
  haveI : Kn (b1.length ≤ 1000000):=⟨hy⟩
  refine Con.walk good fn_ev_sameDef (by simp) ?_
  unfold s_ev_sameDef
  simp only [argsE]
  by_cases e4 : a1 = b1
  · have hb:=eqB_t e4
    repeat' (first|(with_reducible first|refine Wx.h ?_|refine Wb.h fun K hK=>?_|(refine hK _ ?_;clear hK K)|(refine wT ?_ ?_;· assumption)|(refine wF ?_ ?_;· assumption))|((with_reducible refine kQ ?_ ?_);kernel_rfl)|((with_reducible refine k1 ?_ ?_);rfl)|((with_reducible refine k0 ?_ ?_);rfl)|((with_reducible apply kB)<;>first|rfl|intro h)|((with_reducible refine kM ?_ ?_);rfl)|(with_reducible refine Wq.h ?_ ?_)<;>intro h<;>try (exfalso;omega)|(with_reducible refine Wu.h ?_ ?_)<;>intro h<;>try simp only [h]|((fail_if_success with_reducible refine Wz.h ?_);first|simp (disch:=omega) only [↓LD,LA,loadA_rf,seval,Nd.cs,hb]|((with_reducible refine And.intro ?_ ?_);omega)|simp only [D.int,D.bool]))
    · rw [eqB_t (by subst_vars;rfl)];exact end1 rfl rfl (by kernel_rfl) .f ⟨rfl,rfl⟩
    all_goals
      rw [eqB_f (by intro e;cases e;contradiction)];exact end1 rfl rfl (by kernel_rfl) .f ⟨rfl,rfl⟩
  · have hb:=eqB_f e4
    repeat' (first|(with_reducible first|refine Wx.h ?_|refine Wb.h fun K hK=>?_|(refine hK _ ?_;clear hK K)|(refine wT ?_ ?_;· assumption)|(refine wF ?_ ?_;· assumption))|((with_reducible refine kQ ?_ ?_);kernel_rfl)|((with_reducible refine k1 ?_ ?_);rfl)|((with_reducible refine k0 ?_ ?_);rfl)|((with_reducible apply kB)<;>first|rfl|intro h)|((with_reducible refine kM ?_ ?_);rfl)|(with_reducible refine Wq.h ?_ ?_)<;>intro h<;>try (exfalso;omega)|(with_reducible refine Wu.h ?_ ?_)<;>intro h<;>try simp only [h]|((fail_if_success with_reducible refine Wz.h ?_);first|simp (disch:=omega) only [↓LD,LA,loadA_rf,seval,Nd.cs,hb]|((with_reducible refine And.intro ?_ ?_);omega)|simp only [D.int,D.bool]))
    all_goals rw [eqB_f (fun e=>e4 (by cases e;rfl))];exact end1 rfl rfl (by kernel_rfl) .f ⟨rfl,rfl⟩
set_option maxHeartbeats 4000000
theorem eqB_self {α : Type} {a : α} : eqB a a = true:=eqB_t rfl
theorem eqB_true {α : Type} {a b : α} (h : eqB a b = true) : a = b:=by simpa [eqB] using h
theorem c_df_EqualFunc (l m : List Nd) (g : FuncId) (hl : l.length ≤ 1000000) (hm : m.length ≤ 1000000)
    (hf : ∀ x ∈ l,∀ y ∈ m,Con Tryz.prog g [.ag (x.cs.map .f),.ag (y.cs.map .f)] [] fun r H'=>r = D.bool (eqB x y) ∧ H' = []) :
    Con Tryz.prog 38 [.f (fG l),.f (fG m),.fn g []] [] fun r H'=>r = D.bool (eqB l m) ∧ H' = []:=by
  refine Con.walk good fn_df_EqualFunc (by simp) ?_
  unfold s_df_EqualFunc
  simp only [argsE]
  by_cases hlm : (l.length : Int) = m.length
  rotate_left
  · repeat' (first|(with_reducible first|refine Wx.h ?_|refine Wb.h fun K hK=>?_|(refine hK _ ?_;clear hK K)|(refine wT ?_ ?_;· assumption)|(refine wF ?_ ?_;· assumption))|((with_reducible refine kQ ?_ ?_);kernel_rfl)|((with_reducible refine k1 ?_ ?_);rfl)|((with_reducible refine k0 ?_ ?_);rfl)|((with_reducible apply kB)<;>first|rfl|intro h)|((with_reducible refine kM ?_ ?_);rfl)|(with_reducible refine Wq.h ?_ ?_)<;>intro h<;>try (exfalso;omega)|(with_reducible refine Wu.h ?_ ?_)<;>intro h<;>try simp only [h]|((fail_if_success with_reducible refine Wz.h ?_);first|simp (disch:=omega) only [↓LD,LA,loadA_rf,seval,LSt]|((with_reducible refine And.intro ?_ ?_);omega)|simp only [D.int,D.bool]))
    rw [eqB_len hlm]
    exact end1 rfl rfl (by kernel_rfl) .f ⟨rfl,rfl⟩
  repeat' (first|(with_reducible first|refine Wx.h ?_|refine Wb.h fun K hK=>?_|(refine hK _ ?_;clear hK K)|(refine wT ?_ ?_;· assumption)|(refine wF ?_ ?_;· assumption))|((with_reducible refine kQ ?_ ?_);kernel_rfl)|((with_reducible refine k1 ?_ ?_);rfl)|((with_reducible refine k0 ?_ ?_);rfl)|((with_reducible apply kB)<;>first|rfl|intro h)|((with_reducible refine kM ?_ ?_);rfl)|(with_reducible refine Wq.h ?_ ?_)<;>intro h<;>try (exfalso;omega)|(with_reducible refine Wu.h ?_ ?_)<;>intro h<;>try simp only [h]|((fail_if_success with_reducible refine Wz.h ?_);first|simp (disch:=omega) only [↓LD,LA,loadA_rf,seval,LSt]|((with_reducible refine And.intro ?_ ?_);omega)|simp only [D.int,D.bool]))
  refine HS.loopG [1,2,15,16,17] (fun i : Nat=>⟨frm 32 [(1,.f (fG m)),(2,.fn g []),(15,.f (fG l)),(16,D.int l.length),(17,D.int i)],[],[]⟩) (fun i=>i ≤ l.length ∧ l.take i = m.take i) (fun i=>l.length - i) 0 (by kernel_rfl) ⟨Nat.zero_le _,rfl⟩ ?_
  rintro i ⟨hi,ht⟩
  by_cases hil : i < l.length
  · repeat' (first|(with_reducible first|refine Wx.h ?_|refine Wb.h fun K hK=>?_|(refine hK _ ?_;clear hK K)|(refine wT ?_ ?_;· assumption)|(refine wF ?_ ?_;· assumption))|((with_reducible refine kQ ?_ ?_);kernel_rfl)|((with_reducible refine k1 ?_ ?_);rfl)|((with_reducible refine k0 ?_ ?_);rfl)|((with_reducible apply kB)<;>first|rfl|intro h)|((with_reducible refine kM ?_ ?_);rfl)|(with_reducible refine Wq.h ?_ ?_)<;>intro h<;>try (exfalso;omega)|(with_reducible refine Wu.h ?_ ?_)<;>intro h<;>try simp only [h]|((fail_if_success with_reducible refine Wz.h ?_);first|simp (disch:=omega) only [↓LD,LA,loadA_rf,seval,LSt,load_fGd,len_fGd,Nd.cs,-loadA_rf]|((with_reducible refine And.intro ?_ ?_);omega)|simp only [D.int,D.bool]))
    refine callW_pure (hf _ (gt_mem hil) _ (gt_mem (l:=m) (k:=i) (by omega))) rfl rfl rfl ?_
    by_cases e : gt l i = gt m i
    · rw [eqB_t e]
      repeat' (first|(with_reducible first|refine Wx.h ?_|refine Wb.h fun K hK=>?_|(refine hK _ ?_;clear hK K)|(refine wT ?_ ?_;· assumption)|(refine wF ?_ ?_;· assumption))|((with_reducible refine kQ ?_ ?_);kernel_rfl)|((with_reducible refine k1 ?_ ?_);rfl)|((with_reducible refine k0 ?_ ?_);rfl)|((with_reducible apply kB)<;>first|rfl|intro h)|((with_reducible refine kM ?_ ?_);rfl)|(with_reducible refine Wq.h ?_ ?_)<;>intro h<;>try (exfalso;omega)|(with_reducible refine Wu.h ?_ ?_)<;>intro h<;>try simp only [h]|((fail_if_success with_reducible refine Wz.h ?_);first|simp (disch:=omega) only [↓LD,LA,loadA_rf,seval,LSt]|((with_reducible refine And.intro ?_ ?_);omega)|simp only [D.int,D.bool]))
      exact Next.mk (i + 1) (by kernel_rfl) ⟨by omega,take_step hlm hil ht e⟩ (by omega)
    · rw [eqB_f e]
      repeat' (first|(with_reducible first|refine Wx.h ?_|refine Wb.h fun K hK=>?_|(refine hK _ ?_;clear hK K)|(refine wT ?_ ?_;· assumption)|(refine wF ?_ ?_;· assumption))|((with_reducible refine kQ ?_ ?_);kernel_rfl)|((with_reducible refine k1 ?_ ?_);rfl)|((with_reducible refine k0 ?_ ?_);rfl)|((with_reducible apply kB)<;>first|rfl|intro h)|((with_reducible refine kM ?_ ?_);rfl)|(with_reducible refine Wq.h ?_ ?_)<;>intro h<;>try (exfalso;omega)|(with_reducible refine Wu.h ?_ ?_)<;>intro h<;>try simp only [h]|((fail_if_success with_reducible refine Wz.h ?_);first|simp (disch:=omega) only [↓LD,LA,loadA_rf,seval,LSt]|((with_reducible refine And.intro ?_ ?_);omega)|simp only [D.int,D.bool]))
      rw [eqB_at e]
      exact end1 rfl rfl (by kernel_rfl) .f ⟨rfl,rfl⟩
  · repeat' (first|(with_reducible first|refine Wx.h ?_|refine Wb.h fun K hK=>?_|(refine hK _ ?_;clear hK K)|(refine wT ?_ ?_;· assumption)|(refine wF ?_ ?_;· assumption))|((with_reducible refine kQ ?_ ?_);kernel_rfl)|((with_reducible refine k1 ?_ ?_);rfl)|((with_reducible refine k0 ?_ ?_);rfl)|((with_reducible apply kB)<;>first|rfl|intro h)|((with_reducible refine kM ?_ ?_);rfl)|(with_reducible refine Wq.h ?_ ?_)<;>intro h<;>try (exfalso;omega)|(with_reducible refine Wu.h ?_ ?_)<;>intro h<;>try simp only [h]|((fail_if_success with_reducible refine Wz.h ?_);first|simp (disch:=omega) only [↓LD,LA,loadA_rf,seval,LSt]|((with_reducible refine And.intro ?_ ?_);omega)|simp only [D.int,D.bool]))
    rw [eqB_end hlm ht (by omega)]
    exact end1 rfl rfl (by kernel_rfl) .f ⟨rfl,rfl⟩
theorem c_by_EqualN : Con Tryz.prog 37 [.f (.v (.slice none 0 0)),.f (.v (.slice none 0 0))] [] fun r H'=>r = D.bool true ∧ H' = []:=by
  refine Con.walk good fn_by_Equal (by simp) ?_
  unfold s_by_Equal
  simp only [argsE]
  repeat' (first|(with_reducible first|refine Wx.h ?_|refine Wb.h fun K hK=>?_|(refine hK _ ?_;clear hK K)|(refine wT ?_ ?_;· assumption)|(refine wF ?_ ?_;· assumption))|((with_reducible refine kQ ?_ ?_);kernel_rfl)|((with_reducible refine k1 ?_ ?_);rfl)|((with_reducible refine k0 ?_ ?_);rfl)|((with_reducible apply kB)<;>first|rfl|intro h)|((with_reducible refine kM ?_ ?_);rfl)|(with_reducible refine Wq.h ?_ ?_)<;>intro h<;>try (exfalso;omega)|(with_reducible refine Wu.h ?_ ?_)<;>intro h<;>try simp only [h]|((fail_if_success with_reducible refine Wz.h ?_);first|simp (disch:=omega) only [↓LD,LA,loadA_rf,seval]|((with_reducible refine And.intro ?_ ?_);omega)|simp only [D.int,D.bool]))
  refine HS.loopG [12,13] (fun i : Nat=>⟨frm 26 [(12,D.int 0),(13,D.int 0)],[],[]⟩) (fun i=>True) (fun i=>0) 0 (by kernel_rfl) trivial ?_
  rintro i -
  repeat' (first|(with_reducible first|refine Wx.h ?_|refine Wb.h fun K hK=>?_|(refine hK _ ?_;clear hK K)|(refine wT ?_ ?_;· assumption)|(refine wF ?_ ?_;· assumption))|((with_reducible refine kQ ?_ ?_);kernel_rfl)|((with_reducible refine k1 ?_ ?_);rfl)|((with_reducible refine k0 ?_ ?_);rfl)|((with_reducible apply kB)<;>first|rfl|intro h)|((with_reducible refine kM ?_ ?_);rfl)|(with_reducible refine Wq.h ?_ ?_)<;>intro h<;>try (exfalso;omega)|(with_reducible refine Wu.h ?_ ?_)<;>intro h<;>try simp only [h]|((fail_if_success with_reducible refine Wz.h ?_);first|simp (disch:=omega) only [↓LD,LA,loadA_rf,seval]|((with_reducible refine And.intro ?_ ?_);omega)|simp only [D.int,D.bool]))
  exact end1 rfl rfl (by kernel_rfl) .f ⟨rfl,rfl⟩
def DfFit (l : List Nd) : Prop:=l.length ≤ 1000000 ∧ ∀ x ∈ l,x.ns.length ≤ 1000000
def NnFit (l : List Nn) : Prop:=l.length ≤ 1000000 ∧ ∀ x ∈ l,x.data.length ≤ 1000000
def SgFit (l : List Sg) : Prop:=l.length ≤ 1000000 ∧ ∀ x ∈ l,x.data.length ≤ 1000000
instance {H : List Row} {K : D → List Row → Prop} : Wa (callW Tryz.prog (.fn 37 []) [.f (.v (.slice none 0 0)),.f (.v (.slice none 0 0))] H K) (K (.f (.v (.bool true))) H):=⟨fun h=>callW_pure c_by_EqualN rfl rfl rfl h⟩
instance {a b : List Tm} {H : List Row} {K : D → List Row → Prop} [ha : Kn (a.length ≤ 1000000)] [hb : Kn (b.length ≤ 1000000)] : Wa (callW Tryz.prog (.fn 20 []) [.f (fTm a),.f (fTm b)] H K) (K (.f (.v (.bool (eqB a b)))) H):=⟨fun h=>callW_pure (c_tm_Equal a b ha.h hb.h) rfl rfl rfl h⟩
instance {a b : List Nd} {H : List Row} {K : D → List Row → Prop} [ha : Kn (DfFit a)] [hb : Kn (DfFit b)] : Wa (callW Tryz.prog (.fn 38 []) [.f (fG a),.f (fG b),.fn 39 []] H K) (K (.f (.v (.bool (eqB a b)))) H):=⟨fun h=>callW_pure (c_df_EqualFunc a b _ ha.h.1 hb.h.1 fun x hx y hy=>c_sameDef x y (ha.h.2 x hx) (hb.h.2 y hy)) rfl rfl rfl h⟩
instance {a b : List Nn} {H : List Row} {K : D → List Row → Prop} [ha : Kn (NnFit a)] [hb : Kn (NnFit b)] : Wa (callW Tryz.prog (.fn 18 []) [.f (fNn a),.f (fNn b),.fn 19 []] H K) (K (.f (.v (.bool (eqB a b)))) H):=⟨fun h=>callW_pure (c_nd_EqualFunc a b _ ha.h.1 hb.h.1 fun x hx y hy=>c_sameNode x y (ha.h.2 x hx) (hb.h.2 y hy)) rfl rfl rfl h⟩
instance {a b : List Sg} {H : List Row} {K : D → List Row → Prop} [ha : Kn (SgFit a)] [hb : Kn (SgFit b)] : Wa (callW Tryz.prog (.fn 21 []) [.f (fSg a),.f (fSg b),.fn 22 []] H K) (K (.f (.v (.bool (eqB a b)))) H):=⟨fun h=>callW_pure (c_sg_EqualFunc a b _ ha.h.1 hb.h.1 fun x hx y hy=>c_sameSignal x y (ha.h.2 x hx) (hb.h.2 y hy)) rfl rfl rfl h⟩
abbrev evO (a : List Nd) : D:=.ag [.f (.v (.int .i64 0)),.f (.v (.int .i64 0)),.f (.v (.int .i64 0)),.f (.v (.int .i64 0)),.f (.v (.int .i64 0)),.f (.v (.int .i64 0)),.f (.v (.string ⟨#[]⟩)),.f (.v (.slice none 0 0)),.f (fG a)]
theorem c_ev_SameD (a b : List Nd) (ha : DfFit a) (hb : DfFit b) : Con Tryz.prog 17 [evO a,evO b] [] fun r H'=>r = D.bool (eqB a b) ∧ H' = []:=by
  haveI : Kn (DfFit a):=⟨ha⟩
  haveI : Kn (DfFit b):=⟨hb⟩
  refine Con.walk good fn_ev_Same (by simp) ?_
  unfold s_ev_Same
  simp only [argsE]
  repeat' (first|(with_reducible first|refine Wx.h ?_|refine Wb.h fun K hK=>?_|(refine hK _ ?_;clear hK K)|(refine wT ?_ ?_;· assumption)|(refine wF ?_ ?_;· assumption))|((with_reducible refine kQ ?_ ?_);kernel_rfl)|((with_reducible refine k1 ?_ ?_);rfl)|((with_reducible refine k0 ?_ ?_);rfl)|((with_reducible apply kB)<;>first|rfl|intro h)|((with_reducible refine kM ?_ ?_);rfl)|(with_reducible refine Wq.h ?_ ?_)<;>intro h<;>try (exfalso;omega)|(with_reducible refine Wu.h ?_ ?_)<;>intro h<;>try simp only [h]|((fail_if_success with_reducible refine Wz.h ?_);first|simp (disch:=omega) only [↓LD,LA,loadA_rf,seval]|((with_reducible refine And.intro ?_ ?_);omega)|simp only [D.int,D.bool]))
  exact end1 rfl rfl (by kernel_rfl) .f ⟨rfl,rfl⟩
instance {a b : List Nd} {H : List Row} {K : D → List Row → Prop} [ha : Kn (DfFit a)] [hb : Kn (DfFit b)] : Wa (callW Tryz.prog (.fn 17 []) [evO a,evO b] H K) (K (.f (.v (.bool (eqB a b)))) H):=⟨fun h=>callW_pure (c_ev_SameD a b ha.h hb.h) rfl rfl rfl h⟩
set_option maxRecDepth 100000 in
theorem c_st_Same (s t : S12) (hs : FitS s) (ht : FitS t) : Con Tryz.prog 9 [stD s,stD t] [] fun r H'=>r = D.bool (eqB s t) ∧ H' = []:=by
  haveI : Kn (DfFit s.defs):=⟨hs.defs.2,fun x hx=>by have:=hs.defs.1 x hx;omega⟩
  haveI : Kn (DfFit t.defs):=⟨ht.defs.2,fun x hx=>by have:=ht.defs.1 x hx;omega⟩
  haveI : Kn (NnFit s.nodes):=⟨hs.nodes,hs.ndata⟩
  haveI : Kn (NnFit t.nodes):=⟨ht.nodes,ht.ndata⟩
  haveI : Kn (SgFit s.sgs):=⟨hs.sgs,hs.sdata⟩
  haveI : Kn (SgFit t.sgs):=⟨ht.sgs,ht.sdata⟩
  haveI : Kn (s.tms.length ≤ 1000000):=⟨hs.tms⟩
  haveI : Kn (t.tms.length ≤ 1000000):=⟨ht.tms⟩
  clear hs ht
  obtain ⟨a1,a2,a3,a4,a5,a6,a7,a8,a9⟩:=s
  obtain ⟨b1,b2,b3,b4,b5,b6,b7,b8,b9⟩:=t
  refine Con.walk good fn_st_Same (by simp) ?_
  unfold s_st_Same
  simp only [argsE,stD]
  repeat' (first|(with_reducible first|refine Wx.h ?_|refine Wb.h fun K hK=>?_|(refine hK _ ?_;clear hK K)|(refine wT ?_ ?_;· assumption)|(refine wF ?_ ?_;· assumption))|((with_reducible refine kQ ?_ ?_);kernel_rfl)|((with_reducible refine k1 ?_ ?_);rfl)|((with_reducible refine k0 ?_ ?_);rfl)|((with_reducible apply kB)<;>first|rfl|intro h)|((with_reducible refine kM ?_ ?_);rfl)|(with_reducible refine Wq.h ?_ ?_)<;>intro h<;>try (exfalso;omega)|(with_reducible refine Wu.h ?_ ?_)<;>intro h<;>try simp only [h]|((fail_if_success with_reducible refine Wz.h ?_);first|simp (disch:=omega) only [↓LD,LA,loadA_rf,seval]|((with_reducible refine And.intro ?_ ?_);omega)|simp only [D.int,D.bool]))
  · rename_i q1 q2 q3 q4 q5 q6 q7
    have he : eqB (⟨a1,a2,a3,a4,a5,a6,a7,a8,a9⟩ : S12) ⟨b1,b2,b3,b4,b5,b6,b7,b8,b9⟩ = eqB a9 b9:=by
      rw [q1,q2,q3,q4,eq_of_beq q5,eqB_true q6,eqB_true q7,eqB_true h]
      by_cases e9 : a9 = b9
      · rw [e9,eqB_self,eqB_self]
      · rw [eqB_f e9,eqB_f (fun e=>e9 (S12.mk.inj e).2.2.2.2.2.2.2.2)]
    rw [he]
    exact end1 rfl rfl (by kernel_rfl) .f ⟨rfl,rfl⟩
  all_goals
    rw [eqB_f (by intro e;cases e;first|contradiction|(rw [eqB_self] at h;cases h)|(rw [beq_self_eq_true] at h;cases h))]
    exact end1 rfl rfl (by kernel_rfl) .f ⟨rfl,rfl⟩
def s_ref_SameState : SCode :=
  (jq ([.a 2 (.box 29 (.t 0)),.a 3 (.box 29 (.t 1)),.a 4 (.mv kF)]) (.seq (jq ((ap [jo 12 0 2,jl 13 12,jo 14 0 3,jl 15 14,jB 16 .neq 13 15] (ap [jm
 17 16,gO 18 1 2 17 false] (ap [gL 19 18 17 false,gO 20 1 3 17 false,gL 21 20 17 false,jG 22 (.bin .neq (.t 19) (.t 21)) 17 false] (ap [.a 23 (.pick
 (.t 17) kT (.t 22)),jm 24 23,gO 25 2 2 24 false] (ap [gL 26 25 24 false,gO 27 2 3 24 false,gL 28 27 24 false,jG 29 (.bin .neq (.t 26) (.t 28)) 24
 false] (ap [.a 30 (.pick (.t 24) kT (.t 29)),jm 31 30,gO 32 3 2 31 false] (ap [gL 33 32 31 false,gO 34 3 3 31 false,gL 35 34 31 false,jG 36 (.bin
 .neq (.t 33) (.t 35)) 31 false] (ap [.a 37 (.pick (.t 31) kT (.t 36)),jm 38 37,gO 39 4 2 38 false] (ap [gL 40 39 38 false,gO 41 4 3 38 false,gL 42
 41 38 false,jG 43 (.binb .neq (.t 40) (.t 42)) 38 false,.a 44 (.pick (.t 38) kT (.t 43)),jm 45 44,gO 46 5 2 45 false] (ap [gL 47 46 45 false,gO 48
 5 3 45 false,gL 49 48 45 false,jG 50 (.call (kC 23) [(.t 47),(.t 49)]) 45 false] (ap [jG 51 (.unot (.t 50)) 45 false,.a 52 (.pick (.t 45) kT (.t
 51)),jm 53 52,gO 54 6 2 53 false] (ap [gL 55 54 53 false,jG 56 (.slen (.t 55)) 53 false,gO 57 6 3 53 false,gL 58 57 53 false,jG 59 (.slen (.t
 58)) 53 false,jG 60 (.bin .neq (.t 56) (.t 59)) 53 false] (ap [.a 61 (.pick (.t 53) kT (.t 60)),jm 62 61,gO 63 7 2 62 false] (ap [gL 64 63 62 false,
 jG 65 (.slen (.t 64)) 62 false,gO 66 7 3 62 false,gL 67 66 62 false,jG 68 (.slen (.t 67)) 62 false,jG 69 (.bin .neq (.t 65) (.t 68)) 62 false] (ap
 [.a 70 (.pick (.t 62) kT (.t 69)),jm 71 70,gO 72 8 2 71 false] (ap [gL 73 72 71 false,jG 74 (.slen (.t 73)) 71 false,gO 75 8 3 71 false,gL 76 75
 71 false,jG 77 (.slen (.t 76)) 71 false,jG 78 (.bin .neq (.t 74) (.t 77)) 71 false] [.a 79 (.pick (.t 71) kT (.t 78))]))))))))))))))))) (jc 79 (jq
 ([.a 4 (.mv kF)]) .ret) .skip)) (.seq (jq ([jk 5 0]) (.block 0 (.loop (.seq (jq ([jm 80 5,jo 81 6 2,jl 82 81,je 83 82,jB 84 .lss 80 83]) (jc 84
 .skip (.exit 0))) (.seq (.block 1 (jq ([jo 87 6 2,jl 88 87,jm 89 5,jx 90 4 88 89,jL 91 4 90,.a 6 (.alloc 51 [jI,jI,jI,jN]),.n (.store 4 (.t 6)
 (.t 91))]) (jq ([jo 92 6 3,jl 93 92,jm 94 5,jx 95 4 93 94,jL 96 4 95,.a 7 (.alloc 51 [jI,jI,jI,jN]),.n (.store 4 (.t 7) (.t 96))]) (jq ((ap
 [jo 97 0 6,jl 98 97,jo 99 0 7,jl 100 99,jB 101 .neq 98 100] (ap [jm 102 101,gO 103 1 6 102 false] (ap [gL 104 103 102 false,gO 105 1 7 102 false,
 gL 106 105 102 false,jG 107 (.bin .neq (.t 104) (.t 106)) 102 false] (ap [.a 108 (.pick (.t 102) kT (.t 107)),jm 109 108,gO 110 2 6 109 false] (ap
 [gL 111 110 109 false,gO 112 2 7 109 false,gL 113 112 109 false,jG 114 (.bin .neq (.t 111) (.t 113)) 109 false] (ap [.a 115 (.pick (.t 109) kT (.t
 114)),jm 116 115,gO 117 3 6 116 false] (ap [gL 118 117 116 false,jG 119 (.b2s (.t 118)) 116 false,gO 120 3 7 116 false,gL 121 120 116 false,jG
 122 (.b2s (.t 121)) 116 false,jG 123 (.bin .neq (.t 119) (.t 122)) 116 false] [.a 124 (.pick (.t 116) kT (.t 123))])))))))) (jc 124 (jq ([.a 4 (.mv
 kF)]) .ret) .skip))))) (.ops [jm 85 5,jb 86 .add 85 1,jm 5 86])))))) (.seq (jq ([jk 8 0]) (.block 2 (.loop (.seq (jq ([jm 125 8,jo 126 7 2,jl 127
 126,je 128 127,jB 129 .lss 125 128]) (jc 129 .skip (.exit 2))) (.seq (.block 3 (.seq (.drw [jo 132 7 2,jl 133 132,jm 134 8,jx 135 3 133 134,jL
 136 3 135,jo 137 7 3,jl 138 137,jm 139 8,jx 140 3 138 139,jL 141 3 140,.a 142 (.aeq false [1,0,2] (.t 136) (.t 141))] [0,1,0,7,15,0,32,
 0,224,480,1023]) (jc 142 (jq ([.a 4 (.mv kF)]) .ret) .skip))) (.ops [jm 130 8,jb 131 .add 130 1,jm 8 131])))))) (.seq (jq ([jk 9 0]) (.block 4
 (.loop (.seq (jq ([jm 143 9,jo 144 8 2,jl 145 144,je 146 145,jB 147 .lss 143 146]) (jc 147 .skip (.exit 4))) (.seq (.block 5 (jq ([jo 150 8 2,jl
 151 150,jm 152 9,jx 153 3 151 152,jL 154 3 153,.a 10 (.alloc 60 [(.f (.v (.string ⟨#[]⟩))),jI,jN]),.n (.store 3 (.t 10) (.t 154))]) (jq ([jo 155
 8 3,jl 156 155,jm 157 9,jx 158 3 156 157,jL 159 3 158,.a 11 (.alloc 60 [(.f (.v (.string ⟨#[]⟩))),jI,jN]),.n (.store 3 (.t 11) (.t 159))]) (jq
 ((ap [jo 160 0 10,jl 161 160,jo 162 0 11,jl 163 162,jB 164 .neq 161 163] (ap [jm 165 164,gO 166 1 10 165 false] (ap [gL 167 166 165 false,gO 168
 1 11 165 false,gL 169 168 165 false,jG 170 (.bin .neq (.t 167) (.t 169)) 165 false] (ap [.a 171 (.pick (.t 165) kT (.t 170)),jm 172 171,gO 173 2 10
 172 false] (ap [gL 174 173 172 false,jG 175 (.b2s (.t 174)) 172 false,gO 176 2 11 172 false,gL 177 176 172 false,jG 178 (.b2s (.t 177)) 172 false,
 jG 179 (.bin .neq (.t 175) (.t 178)) 172 false] [.a 180 (.pick (.t 172) kT (.t 179))])))))) (jc 180 (jq ([.a 4 (.mv kF)]) .ret) .skip))))) (.ops [jm
 148 9,jb 149 .add 148 1,jm 9 149])))))) (jq ([.a 4 (.mv kT)]) .ret))))))
theorem fn_ref_SameState : Fn Tryz.prog 10 181 [.t 4] s_ref_SameState:=.of Tryz.func10 (by kernel_rfl)
def s_r8_SameDefs : SCode :=
  (jq ([.a 4 (.mv kF)]) (.seq (jq ([jm 6 0,je 7 6,jm 8 1,je 9 8,jB 10 .neq 7 9]) (jc 10 (jq ([.a 4 (.mv kF)]) .ret) .skip)) (.seq (jq ([jk 5 0])
 (.block 0 (.loop (.seq (jq ([jm 11 5,jm 12 0,je 13 12,jB 14 .lss 11 13]) (jc 14 .skip (.exit 0))) (.seq (.block 1 (.seq (.drw [jm 17 0,jm 18 5,jx
 19 3 17 18,jo 20 1 19,jl 21 20,jm 22 1,jm 23 5,jx 24 3 22 23,jo 25 1 24,jl 26 25,jB 27 .neq 21 26,jm 28 27,gM 29 0 28 false,gM 30 5 28
 false,jG 31 (.idx 3 (.t 29) (.t 30)) 28 false,gO 32 2 31 28 false,gL 33 32 28 false,gM 34 1 28 false,gM 35 5 28 false,jG 36 (.idx 3 (.t 34) (.t
 35)) 28 false,gO 37 2 36 28 false,gL 38 37 28 false,jG 39 (.bin .neq (.t 33) (.t 38)) 28 false,.a 40 (.pick (.t 28) kT (.t 39)),jm 41 40,gM 42 0
 41 false,gM 43 5 41 false,jG 44 (.idx 3 (.t 42) (.t 43)) 41 false,gO 45 0 44 41 false,gL 46 45 41 false,gM 47 1 41 false,gM 48 5 41 false,jG 49
 (.idx 3 (.t 47) (.t 48)) 41 false,gO 50 0 49 41 false,gL 51 50 41 false,jG 52 (.call (kC 41) [(.t 46),(.t 51)]) 41 false,jG 53 (.unot (.t 52)) 41
 false,.a 54 (.pick (.t 41) kT (.t 53))] [0,0,3,7,15,0,0,96,224,480,1023,2047,4095,4095,16383,32767,65535,4095,4095,397311,921599,
 1970175,4194303,8388607,16777215,33554431,33554431,134217727,268435455,536870911,33554431,33554431,3254779903,7549747199,16139681791,
 34359738367,68719476735,137438953471]) (jc 54 (jq ([.a 4 (.mv kF)]) .ret) .skip))) (.ops [jm 15 5,jb 16 .add 15 1,jm 5 16])))))) (jq ([.a 4 (.mv
 kT)]) .ret))))
theorem fn_r8_SameDefs : Fn Tryz.prog 23 55 [.t 4] s_r8_SameDefs:=.of Tryz.func23 (by kernel_rfl)
def s_r8_SameInts : SCode :=
  (jq ([.a 4 (.mv kF)]) (.seq (jq ([jm 6 0,je 7 6,jm 8 1,je 9 8,jB 10 .neq 7 9]) (jc 10 (jq ([.a 4 (.mv kF)]) .ret) .skip)) (.seq (jq ([jk 5 0])
 (.block 0 (.loop (.seq (jq ([jm 11 5,jm 12 0,je 13 12,jB 14 .lss 11 13]) (jc 14 .skip (.exit 0))) (.seq (.block 1 (.seq (.drw [jm 17 0,jm 18 5,jx
 19 1 17 18,jl 20 19,jm 21 1,jm 22 5,jx 23 1 21 22,jl 24 23,jB 25 .neq 20 24] [0,0,3,7,0,0,48,112,255]) (jc 25 (jq ([.a 4 (.mv kF)]) .ret)
 .skip))) (.ops [jm 15 5,jb 16 .add 15 1,jm 5 16])))))) (jq ([.a 4 (.mv kT)]) .ret))))
theorem fn_r8_SameInts : Fn Tryz.prog 41 26 [.t 4] s_r8_SameInts:=.of Tryz.func41 (by kernel_rfl)
set_option maxHeartbeats 4000000
theorem c_r8_SameInts (l m : List Int) (hl : l.length ≤ 1000000) (hm : m.length ≤ 1000000) : Con Tryz.prog 41 [.f (fI l),.f (fI m)] [] fun r H'=>r = D.bool (eqB l m) ∧ H' = []:=by
  refine Con.walk good fn_r8_SameInts (by simp) ?_
  unfold s_r8_SameInts
  simp only [argsE]
  by_cases hlm : (l.length : Int) = m.length
  rotate_left
  · repeat' (first|(with_reducible first|refine Wx.h ?_|refine Wb.h fun K hK=>?_|(refine hK _ ?_;clear hK K)|(refine wT ?_ ?_;· assumption)|(refine wF ?_ ?_;· assumption))|((with_reducible refine kQ ?_ ?_);kernel_rfl)|((with_reducible refine k1 ?_ ?_);rfl)|((with_reducible refine k0 ?_ ?_);rfl)|((with_reducible apply kB)<;>first|rfl|intro h)|((with_reducible refine kM ?_ ?_);rfl)|(with_reducible refine Wq.h ?_ ?_)<;>intro h<;>try (exfalso;omega)|(with_reducible refine Wu.h ?_ ?_)<;>intro h<;>try simp only [h]|((fail_if_success with_reducible refine Wz.h ?_);first|simp (disch:=omega) only [↓LD,LA,loadA_rf,seval,LSt]|((with_reducible refine And.intro ?_ ?_);omega)|simp only [D.int,D.bool]))
    rw [eqB_len hlm]
    exact end1 rfl rfl (by kernel_rfl) .f ⟨rfl,rfl⟩
  repeat' (first|(with_reducible first|refine Wx.h ?_|refine Wb.h fun K hK=>?_|(refine hK _ ?_;clear hK K)|(refine wT ?_ ?_;· assumption)|(refine wF ?_ ?_;· assumption))|((with_reducible refine kQ ?_ ?_);kernel_rfl)|((with_reducible refine k1 ?_ ?_);rfl)|((with_reducible refine k0 ?_ ?_);rfl)|((with_reducible apply kB)<;>first|rfl|intro h)|((with_reducible refine kM ?_ ?_);rfl)|(with_reducible refine Wq.h ?_ ?_)<;>intro h<;>try (exfalso;omega)|(with_reducible refine Wu.h ?_ ?_)<;>intro h<;>try simp only [h]|((fail_if_success with_reducible refine Wz.h ?_);first|simp (disch:=omega) only [↓LD,LA,loadA_rf,seval,LSt]|((with_reducible refine And.intro ?_ ?_);omega)|simp only [D.int,D.bool]))
  refine HS.loopG [0,1,5] (fun i : Nat=>⟨frm 26 [(0,.f (fI l)),(1,.f (fI m)),(5,D.int i)],[],[]⟩) (fun i=>i ≤ l.length ∧ l.take i = m.take i) (fun i=>l.length - i) 0 (by kernel_rfl) ⟨Nat.zero_le _,rfl⟩ ?_
  rintro i ⟨hi,ht⟩
  by_cases hil : i < l.length
  · by_cases e : gt l i = gt m i
    · repeat' (first|(with_reducible first|refine Wx.h ?_|refine We.h fun K hK=>?_|refine Wd.h fun K M hK hM=>?_|(refine hK _ _ _ _ ?_;clear hK K;try clear hM M)|(refine hM ?_;clear hM M;try clear hK K)|refine Wb.h fun K hK=>?_|(refine hK _ ?_;clear hK K)|(refine wT ?_ ?_;· assumption)|(refine wF ?_ ?_;· assumption))|((with_reducible refine kQ ?_ ?_);kernel_rfl)|((with_reducible refine k1 ?_ ?_);rfl)|((with_reducible refine k0 ?_ ?_);rfl)|((with_reducible apply kB)<;>first|rfl|intro h)|((with_reducible refine kM ?_ ?_);rfl)|(with_reducible refine Wq.h ?_ ?_)<;>intro h<;>try (exfalso;omega)|(with_reducible refine Wu.h ?_ ?_)<;>intro h<;>try simp only [h]|((fail_if_success with_reducible refine Wz.h ?_);first|simp (disch:=omega) only [↓LD,LA,loadA_rf,seval,LSt]|((with_reducible refine And.intro ?_ ?_);omega)|simp only [D.int,D.bool]))
      exact Next.mk (i + 1) (by kernel_rfl) ⟨by omega,take_step hlm hil ht e⟩ (by omega)
    · repeat' (first|(with_reducible first|refine Wx.h ?_|refine We.h fun K hK=>?_|refine Wd.h fun K M hK hM=>?_|(refine hK _ _ _ _ ?_;clear hK K;try clear hM M)|(refine hM ?_;clear hM M;try clear hK K)|refine Wb.h fun K hK=>?_|(refine hK _ ?_;clear hK K)|(refine wT ?_ ?_;· assumption)|(refine wF ?_ ?_;· assumption))|((with_reducible refine kQ ?_ ?_);kernel_rfl)|((with_reducible refine k1 ?_ ?_);rfl)|((with_reducible refine k0 ?_ ?_);rfl)|((with_reducible apply kB)<;>first|rfl|intro h)|((with_reducible refine kM ?_ ?_);rfl)|(with_reducible refine Wq.h ?_ ?_)<;>intro h<;>try (exfalso;omega)|(with_reducible refine Wu.h ?_ ?_)<;>intro h<;>try simp only [h]|((fail_if_success with_reducible refine Wz.h ?_);first|simp (disch:=omega) only [↓LD,LA,loadA_rf,seval,LSt]|((with_reducible refine And.intro ?_ ?_);omega)|simp only [D.int,D.bool]))
      rw [eqB_at e]
      exact end1 rfl rfl (by kernel_rfl) .f ⟨rfl,rfl⟩
  · repeat' (first|(with_reducible first|refine Wx.h ?_|refine Wb.h fun K hK=>?_|(refine hK _ ?_;clear hK K)|(refine wT ?_ ?_;· assumption)|(refine wF ?_ ?_;· assumption))|((with_reducible refine kQ ?_ ?_);kernel_rfl)|((with_reducible refine k1 ?_ ?_);rfl)|((with_reducible refine k0 ?_ ?_);rfl)|((with_reducible apply kB)<;>first|rfl|intro h)|((with_reducible refine kM ?_ ?_);rfl)|(with_reducible refine Wq.h ?_ ?_)<;>intro h<;>try (exfalso;omega)|(with_reducible refine Wu.h ?_ ?_)<;>intro h<;>try simp only [h]|((fail_if_success with_reducible refine Wz.h ?_);first|simp (disch:=omega) only [↓LD,LA,loadA_rf,seval,LSt]|((with_reducible refine And.intro ?_ ?_);omega)|simp only [D.int,D.bool]))
    rw [eqB_end hlm ht (by omega)]
    exact end1 rfl rfl (by kernel_rfl) .f ⟨rfl,rfl⟩
instance {a b : List Int} {H : List Row} {K : Bool → D → List Row → Prop} [ha : Kn (a.length ≤ 1000000)] [hb : Kn (b.length ≤ 1000000)] : Wa (callDr Tryz.prog (.fn 41 []) [.f (fI a),.f (fI b)] H K) (K true (.f (.v (.bool (eqB a b)))) H):=⟨fun h=>callDr_pure (c_r8_SameInts a b ha.h hb.h) rfl rfl rfl h⟩
set_option maxRecDepth 100000 in
theorem c_r8_SameDefs (l m : List Nd) (hl : DfFit l) (hm : DfFit m) : Con Tryz.prog 23 [.f (fG l),.f (fG m)] [] fun r H'=>r = D.bool (eqB l m) ∧ H' = []:=by
  obtain ⟨hl,hln⟩:=hl
  obtain ⟨hm,hmn⟩:=hm
  refine Con.walk good fn_r8_SameDefs (by simp) ?_
  unfold s_r8_SameDefs
  simp only [argsE]
  by_cases hlm : (l.length : Int) = m.length
  rotate_left
  · repeat' (first|(with_reducible first|refine Wx.h ?_|refine Wb.h fun K hK=>?_|(refine hK _ ?_;clear hK K)|(refine wT ?_ ?_;· assumption)|(refine wF ?_ ?_;· assumption))|((with_reducible refine kQ ?_ ?_);kernel_rfl)|((with_reducible refine k1 ?_ ?_);rfl)|((with_reducible refine k0 ?_ ?_);rfl)|((with_reducible apply kB)<;>first|rfl|intro h)|((with_reducible refine kM ?_ ?_);rfl)|(with_reducible refine Wq.h ?_ ?_)<;>intro h<;>try (exfalso;omega)|(with_reducible refine Wu.h ?_ ?_)<;>intro h<;>try simp only [h]|((fail_if_success with_reducible refine Wz.h ?_);first|simp (disch:=omega) only [↓LD,LA,loadA_rf,seval,LSt]|((with_reducible refine And.intro ?_ ?_);omega)|simp only [D.int,D.bool]))
    rw [eqB_len hlm]
    exact end1 rfl rfl (by kernel_rfl) .f ⟨rfl,rfl⟩
  repeat' (first|(with_reducible first|refine Wx.h ?_|refine Wb.h fun K hK=>?_|(refine hK _ ?_;clear hK K)|(refine wT ?_ ?_;· assumption)|(refine wF ?_ ?_;· assumption))|((with_reducible refine kQ ?_ ?_);kernel_rfl)|((with_reducible refine k1 ?_ ?_);rfl)|((with_reducible refine k0 ?_ ?_);rfl)|((with_reducible apply kB)<;>first|rfl|intro h)|((with_reducible refine kM ?_ ?_);rfl)|(with_reducible refine Wq.h ?_ ?_)<;>intro h<;>try (exfalso;omega)|(with_reducible refine Wu.h ?_ ?_)<;>intro h<;>try simp only [h]|((fail_if_success with_reducible refine Wz.h ?_);first|simp (disch:=omega) only [↓LD,LA,loadA_rf,seval,LSt]|((with_reducible refine And.intro ?_ ?_);omega)|simp only [D.int,D.bool]))
  refine HS.loopG [0,1,5] (fun i : Nat=>⟨frm 55 [(0,.f (fG l)),(1,.f (fG m)),(5,D.int i)],[],[]⟩) (fun i=>i ≤ l.length ∧ l.take i = m.take i) (fun i=>l.length - i) 0 (by kernel_rfl) ⟨Nat.zero_le _,rfl⟩ ?_
  rintro i ⟨hi,ht⟩
  by_cases hil : i < l.length
  · haveI : Kn ((gt l i).ns.length ≤ 1000000):=⟨hln _ (gt_mem hil)⟩
    haveI : Kn ((gt m i).ns.length ≤ 1000000):=⟨hmn _ (gt_mem (by omega))⟩
    by_cases e : gt l i = gt m i
    · have hb : eqB (gt m i).ns (gt m i).ns = true:=eqB_self
      repeat' (first|(with_reducible first|refine Wx.h ?_|refine We.h fun K hK=>?_|refine Wd.h fun K M hK hM=>?_|(refine hK _ _ _ _ ?_;clear hK K;try clear hM M)|(refine hM ?_;clear hM M;try clear hK K)|refine Wb.h fun K hK=>?_|(refine hK _ ?_;clear hK K)|(refine wT ?_ ?_;· assumption)|(refine wF ?_ ?_;· assumption))|((with_reducible refine kQ ?_ ?_);kernel_rfl)|((with_reducible refine k1 ?_ ?_);rfl)|((with_reducible refine k0 ?_ ?_);rfl)|((with_reducible apply kB)<;>first|rfl|intro h)|((with_reducible refine kM ?_ ?_);rfl)|(with_reducible refine Wq.h ?_ ?_)<;>intro h<;>try (exfalso;omega)|(with_reducible refine Wu.h ?_ ?_)<;>intro h<;>try simp only [h]|((fail_if_success with_reducible refine Wz.h ?_);first|simp (disch:=omega) only [↓LD,LA,loadA_rf,seval,LSt,len_fGd,nd_at0,nd_at1,nd_at2,hb,e,Bool.not_true]|((with_reducible refine And.intro ?_ ?_);omega)|simp only [D.int,D.bool]))
      exact Next.mk (i + 1) (by kernel_rfl) ⟨by omega,take_step hlm hil ht e⟩ (by omega)
    · have hb : (gt l i).tr = (gt m i).tr → (gt l i).le = (gt m i).le → eqB (gt l i).ns (gt m i).ns = false:=fun h1 h2=>eqB_f fun h3=>e (by
        cases hx : gt l i;cases hy : gt m i;rw [hx,hy] at h1 h2 h3;dsimp only at h1 h2 h3;rw [h1,h2,h3])
      repeat' (first|(with_reducible first|refine Wx.h ?_|refine We.h fun K hK=>?_|refine Wd.h fun K M hK hM=>?_|(refine hK _ _ _ _ ?_;clear hK K;try clear hM M)|(refine hM ?_;clear hM M;try clear hK K)|refine Wb.h fun K hK=>?_|(refine hK _ ?_;clear hK K)|(refine wT ?_ ?_;· assumption)|(refine wF ?_ ?_;· assumption))|((with_reducible refine kQ ?_ ?_);kernel_rfl)|((with_reducible refine k1 ?_ ?_);rfl)|((with_reducible refine k0 ?_ ?_);rfl)|((with_reducible apply kB)<;>first|rfl|intro h)|((with_reducible refine kM ?_ ?_);rfl)|(with_reducible refine Wq.h ?_ ?_)<;>intro h<;>try (exfalso;omega)|(with_reducible refine Wu.h ?_ ?_)<;>intro h<;>try simp only [h]|((fail_if_success with_reducible refine Wz.h ?_);first|simp (disch:=omega) only [↓LD,LA,loadA_rf,seval,LSt,len_fGd,nd_at0,nd_at1,nd_at2,hb]|((with_reducible refine And.intro ?_ ?_);omega)|simp only [D.int,D.bool]))
      all_goals
        rw [eqB_at e]
        exact end1 rfl rfl (by kernel_rfl) .f ⟨rfl,rfl⟩
  · repeat' (first|(with_reducible first|refine Wx.h ?_|refine Wb.h fun K hK=>?_|(refine hK _ ?_;clear hK K)|(refine wT ?_ ?_;· assumption)|(refine wF ?_ ?_;· assumption))|((with_reducible refine kQ ?_ ?_);kernel_rfl)|((with_reducible refine k1 ?_ ?_);rfl)|((with_reducible refine k0 ?_ ?_);rfl)|((with_reducible apply kB)<;>first|rfl|intro h)|((with_reducible refine kM ?_ ?_);rfl)|(with_reducible refine Wq.h ?_ ?_)<;>intro h<;>try (exfalso;omega)|(with_reducible refine Wu.h ?_ ?_)<;>intro h<;>try simp only [h]|((fail_if_success with_reducible refine Wz.h ?_);first|simp (disch:=omega) only [↓LD,LA,loadA_rf,seval,LSt]|((with_reducible refine And.intro ?_ ?_);omega)|simp only [D.int,D.bool]))
    rw [eqB_end hlm ht (by omega)]
    exact end1 rfl rfl (by kernel_rfl) .f ⟨rfl,rfl⟩
instance {a b : List Nd} {H : List Row} {K : D → List Row → Prop} [ha : Kn (DfFit a)] [hb : Kn (DfFit b)] : Wa (callW Tryz.prog (.fn 23 []) [.f (fG a),.f (fG b)] H K) (K (.f (.v (.bool (eqB a b)))) H):=⟨fun h=>callW_pure (c_r8_SameDefs a b ha.h hb.h) rfl rfl rfl h⟩
set_option maxRecDepth 100000 in
theorem c_ref_SameState (s t : S12) (hs : FitS s) (ht : FitS t) : Con Tryz.prog 10 [stD s,stD t] [] fun r H'=>r = D.bool (eqB s t) ∧ H' = []:=by
  haveI : Kn (DfFit s.defs):=⟨hs.defs.2,fun x hx=>by have:=hs.defs.1 x hx;omega⟩
  haveI : Kn (DfFit t.defs):=⟨ht.defs.2,fun x hx=>by have:=ht.defs.1 x hx;omega⟩
  have hn:=hs.nodes
  have htm:=hs.tms
  have hsg:=hs.sgs
  clear hs ht
  suffices hh : ∀ Q : D → List Row → Prop,Q (D.bool (eqB s t)) [] → Con Tryz.prog 10 [stD s,stD t] [] Q from hh _ ⟨rfl,rfl⟩
  intro Q hQ
  obtain ⟨a1,a2,a3,a4,a5,a6,a7,a8,a9⟩:=s
  obtain ⟨b1,b2,b3,b4,b5,b6,b7,b8,b9⟩:=t
  dsimp only at *
  refine Con.walk good fn_ref_SameState (by simp) ?_
  unfold s_ref_SameState
  simp only [argsE,stD]
  have hf : ¬ ((⟨a1,a2,a3,a4,a5,a6,a7,a8,a9⟩ : S12) = ⟨b1,b2,b3,b4,b5,b6,b7,b8,b9⟩) → Q (D.bool false) []:=fun h=>by rw [eqB_f h] at hQ;exact hQ
  repeat' (first|(with_reducible first|refine Wx.h ?_|refine Wb.h fun K hK=>?_|(refine hK _ ?_;clear hK K)|(refine wT ?_ ?_;· assumption)|(refine wF ?_ ?_;· assumption))|((with_reducible refine kQ ?_ ?_);kernel_rfl)|((with_reducible refine k1 ?_ ?_);rfl)|((with_reducible refine k0 ?_ ?_);rfl)|((with_reducible apply kB)<;>first|rfl|intro h)|((with_reducible refine kM ?_ ?_);rfl)|(with_reducible refine Wq.h ?_ ?_)<;>intro h<;>try (exfalso;omega)|(with_reducible refine Wu.h ?_ ?_)<;>intro h<;>try simp only [h]|((fail_if_success with_reducible refine Wz.h ?_);first|simp (disch:=omega) only [↓LD,LA,loadA_rf,seval,LSt]|((with_reducible refine And.intro ?_ ?_);omega)|simp only [D.int,D.bool]))
  rotate_left
  all_goals try
    refine end1 rfl rfl (by kernel_rfl) .f (hf ?_)
    intro e;cases e;first|contradiction|(rw [eqB_self] at h;cases h)|(rw [beq_self_eq_true] at h;cases h)
  rename_i q1 q2 q3 q4 q5 q6 q7 q8
  have q9:=h
  clear h
  refine HS.loopG [2,3,5] (fun i : Nat=>⟨frm 181 [(2,.pt 0 0),(3,.pt 1 0),(5,D.int i)],[stF ⟨a1,a2,a3,a4,a5,a6,a7,a8,a9⟩,stF ⟨b1,b2,b3,b4,b5,b6,b7,b8,b9⟩],[]⟩) (fun i=>i ≤ a7.length ∧ a7.take i = b7.take i) (fun i=>a7.length - i) 0 (by kernel_rfl) ⟨Nat.zero_le _,rfl⟩ ?_
  rintro i ⟨hi,ht⟩
  by_cases hil : i < a7.length
  · by_cases e : gt a7 i = gt b7 i
    · repeat' (first|(with_reducible first|refine Wx.h ?_|refine We.h fun K hK=>?_|refine Wd.h fun K M hK hM=>?_|(refine hK _ _ _ _ ?_;clear hK K;try clear hM M)|(refine hM ?_;clear hM M;try clear hK K)|refine Wb.h fun K hK=>?_|(refine hK _ ?_;clear hK K)|(refine wT ?_ ?_;· assumption)|(refine wF ?_ ?_;· assumption))|((with_reducible refine kQ ?_ ?_);kernel_rfl)|((with_reducible refine k1 ?_ ?_);rfl)|((with_reducible refine k0 ?_ ?_);rfl)|((with_reducible apply kB)<;>first|rfl|intro h)|((with_reducible refine kM ?_ ?_);rfl)|(with_reducible refine Wq.h ?_ ?_)<;>intro h<;>try (exfalso;omega)|(with_reducible refine Wu.h ?_ ?_)<;>intro h<;>try simp only [h]|((fail_if_success with_reducible refine Wz.h ?_);first|simp (disch:=omega) only [↓LD,LA,loadA_rf,seval,LSt,stF,load_fNn,len_fNn,Nn.cs,e,bytes_map,-loadA_rf]|((with_reducible refine And.intro ?_ ?_);omega)|simp only [D.int,D.bool]))
      exact Next.mk (i + 1) (by kernel_rfl) ⟨by omega,take_step q7 hil ht e⟩ (by omega)
    · have hff : Q (D.bool false) []:=hf fun h=>by cases h;exact e rfl
      clear hf hQ
      generalize hx : gt a7 i = x at e
      generalize hy : gt b7 i = y at e
      obtain ⟨x1,x2,x3,x4⟩:=x
      obtain ⟨y1,y2,y3,y4⟩:=y
      repeat' (first|(with_reducible first|refine Wx.h ?_|refine We.h fun K hK=>?_|refine Wd.h fun K M hK hM=>?_|(refine hK _ _ _ _ ?_;clear hK K;try clear hM M)|(refine hM ?_;clear hM M;try clear hK K)|refine Wb.h fun K hK=>?_|(refine hK _ ?_;clear hK K)|(refine wT ?_ ?_;· assumption)|(refine wF ?_ ?_;· assumption))|((with_reducible refine kQ ?_ ?_);kernel_rfl)|((with_reducible refine k1 ?_ ?_);rfl)|((with_reducible refine k0 ?_ ?_);rfl)|((with_reducible apply kB)<;>first|rfl|intro h)|((with_reducible refine kM ?_ ?_);rfl)|(with_reducible refine Wq.h ?_ ?_)<;>intro h<;>try (exfalso;omega)|(with_reducible refine Wu.h ?_ ?_)<;>intro h<;>try simp only [h]|((fail_if_success with_reducible refine Wz.h ?_);first|simp (disch:=omega) only [↓LD,LA,loadA_rf,seval,LSt,stF,load_fNn,len_fNn,Nn.cs,hx,hy,bytes_map,-loadA_rf]|((with_reducible refine And.intro ?_ ?_);omega)|simp only [D.int,D.bool]))
      all_goals first|exact end1 rfl rfl (by kernel_rfl) .f hff|(exfalso;have h5:=Eq.mp bb_inj h;subst_vars;exact e rfl)
  have e7 : a7 = b7:=by
    have:=eqB_true (eqB_end q7 ht (by omega));exact this
  subst e7
  repeat' (first|(with_reducible first|refine Wx.h ?_|refine Wb.h fun K hK=>?_|(refine hK _ ?_;clear hK K)|(refine wT ?_ ?_;· assumption)|(refine wF ?_ ?_;· assumption))|((with_reducible refine kQ ?_ ?_);kernel_rfl)|((with_reducible refine k1 ?_ ?_);rfl)|((with_reducible refine k0 ?_ ?_);rfl)|((with_reducible apply kB)<;>first|rfl|intro h)|((with_reducible refine kM ?_ ?_);rfl)|(with_reducible refine Wq.h ?_ ?_)<;>intro h<;>try (exfalso;omega)|(with_reducible refine Wu.h ?_ ?_)<;>intro h<;>try simp only [h]|((fail_if_success with_reducible refine Wz.h ?_);first|simp (disch:=omega) only [↓LD,LA,loadA_rf,seval,LSt,stF]|((with_reducible refine And.intro ?_ ?_);omega)|simp only [D.int,D.bool]))
  refine HS.loopG [2,3,8] (fun i : Nat=>⟨frm 181 [(2,.pt 0 0),(3,.pt 1 0),(8,D.int i)],[stF ⟨a1,a2,a3,a4,a5,a6,a7,a8,a9⟩,stF ⟨b1,b2,b3,b4,b5,b6,a7,b8,b9⟩],[]⟩) (fun i=>i ≤ a8.length ∧ a8.take i = b8.take i) (fun i=>a8.length - i) 0 (by kernel_rfl) ⟨Nat.zero_le _,rfl⟩ ?_
  rintro j ⟨hj,hu⟩
  by_cases hjl : j < a8.length
  · by_cases e : gt a8 j = gt b8 j
    · have hb:=eqB_t e
      repeat' (first|(with_reducible first|refine Wx.h ?_|refine We.h fun K hK=>?_|refine Wd.h fun K M hK hM=>?_|(refine hK _ _ _ _ ?_;clear hK K;try clear hM M)|(refine hM ?_;clear hM M;try clear hK K)|refine Wb.h fun K hK=>?_|(refine hK _ ?_;clear hK K)|(refine wT ?_ ?_;· assumption)|(refine wF ?_ ?_;· assumption))|((with_reducible refine kQ ?_ ?_);kernel_rfl)|((with_reducible refine k1 ?_ ?_);rfl)|((with_reducible refine k0 ?_ ?_);rfl)|((with_reducible apply kB)<;>first|rfl|intro h)|((with_reducible refine kM ?_ ?_);rfl)|(with_reducible refine Wq.h ?_ ?_)<;>intro h<;>try (exfalso;omega)|(with_reducible refine Wu.h ?_ ?_)<;>intro h<;>try simp only [h]|((fail_if_success with_reducible refine Wz.h ?_);first|simp (disch:=omega) only [↓LD,LA,loadA_rf,seval,LSt,stF,load_fTm,len_fTm,Tm.cs,eqL_tm,hb,Bool.not_true,-loadA_rf]|((with_reducible refine And.intro ?_ ?_);omega)|simp only [D.int,D.bool]))
      exact Next.mk (j + 1) (by kernel_rfl) ⟨by omega,take_step q8 hjl hu e⟩ (by omega)
    · have hb:=eqB_f e
      repeat' (first|(with_reducible first|refine Wx.h ?_|refine We.h fun K hK=>?_|refine Wd.h fun K M hK hM=>?_|(refine hK _ _ _ _ ?_;clear hK K;try clear hM M)|(refine hM ?_;clear hM M;try clear hK K)|refine Wb.h fun K hK=>?_|(refine hK _ ?_;clear hK K)|(refine wT ?_ ?_;· assumption)|(refine wF ?_ ?_;· assumption))|((with_reducible refine kQ ?_ ?_);kernel_rfl)|((with_reducible refine k1 ?_ ?_);rfl)|((with_reducible refine k0 ?_ ?_);rfl)|((with_reducible apply kB)<;>first|rfl|intro h)|((with_reducible refine kM ?_ ?_);rfl)|(with_reducible refine Wq.h ?_ ?_)<;>intro h<;>try (exfalso;omega)|(with_reducible refine Wu.h ?_ ?_)<;>intro h<;>try simp only [h]|((fail_if_success with_reducible refine Wz.h ?_);first|simp (disch:=omega) only [↓LD,LA,loadA_rf,seval,LSt,stF,load_fTm,len_fTm,Tm.cs,eqL_tm,hb,Bool.not_false,-loadA_rf]|((with_reducible refine And.intro ?_ ?_);omega)|simp only [D.int,D.bool]))
      exact end1 rfl rfl (by kernel_rfl) .f (hf fun h=>by cases h;exact e rfl)
  have e8 : a8 = b8:=by
    have:=eqB_true (eqB_end q8 hu (by omega));exact this
  subst e8
  repeat' (first|(with_reducible first|refine Wx.h ?_|refine Wb.h fun K hK=>?_|(refine hK _ ?_;clear hK K)|(refine wT ?_ ?_;· assumption)|(refine wF ?_ ?_;· assumption))|((with_reducible refine kQ ?_ ?_);kernel_rfl)|((with_reducible refine k1 ?_ ?_);rfl)|((with_reducible refine k0 ?_ ?_);rfl)|((with_reducible apply kB)<;>first|rfl|intro h)|((with_reducible refine kM ?_ ?_);rfl)|(with_reducible refine Wq.h ?_ ?_)<;>intro h<;>try (exfalso;omega)|(with_reducible refine Wu.h ?_ ?_)<;>intro h<;>try simp only [h]|((fail_if_success with_reducible refine Wz.h ?_);first|simp (disch:=omega) only [↓LD,LA,loadA_rf,seval,LSt,stF]|((with_reducible refine And.intro ?_ ?_);omega)|simp only [D.int,D.bool]))
  refine HS.loopG [2,3,9] (fun i : Nat=>⟨frm 181 [(2,.pt 0 0),(3,.pt 1 0),(9,D.int i)],[stF ⟨a1,a2,a3,a4,a5,a6,a7,a8,a9⟩,stF ⟨b1,b2,b3,b4,b5,b6,a7,a8,b9⟩],[]⟩) (fun i=>i ≤ a9.length ∧ a9.take i = b9.take i) (fun i=>a9.length - i) 0 (by kernel_rfl) ⟨Nat.zero_le _,rfl⟩ ?_
  rintro k ⟨hk,hv⟩
  by_cases hkl : k < a9.length
  · by_cases e : gt a9 k = gt b9 k
    · repeat' (first|(with_reducible first|refine Wx.h ?_|refine We.h fun K hK=>?_|refine Wd.h fun K M hK hM=>?_|(refine hK _ _ _ _ ?_;clear hK K;try clear hM M)|(refine hM ?_;clear hM M;try clear hK K)|refine Wb.h fun K hK=>?_|(refine hK _ ?_;clear hK K)|(refine wT ?_ ?_;· assumption)|(refine wF ?_ ?_;· assumption))|((with_reducible refine kQ ?_ ?_);kernel_rfl)|((with_reducible refine k1 ?_ ?_);rfl)|((with_reducible refine k0 ?_ ?_);rfl)|((with_reducible apply kB)<;>first|rfl|intro h)|((with_reducible refine kM ?_ ?_);rfl)|(with_reducible refine Wq.h ?_ ?_)<;>intro h<;>try (exfalso;omega)|(with_reducible refine Wu.h ?_ ?_)<;>intro h<;>try simp only [h]|((fail_if_success with_reducible refine Wz.h ?_);first|simp (disch:=omega) only [↓LD,LA,loadA_rf,seval,LSt,stF,load_fSg,len_fSg,Sg.cs,e,bytes_map,-loadA_rf]|((with_reducible refine And.intro ?_ ?_);omega)|simp only [D.int,D.bool]))
      exact Next.mk (k + 1) (by kernel_rfl) ⟨by omega,take_step q9 hkl hv e⟩ (by omega)
    · have hff : Q (D.bool false) []:=hf fun h=>by cases h;exact e rfl
      clear hf hQ
      generalize hx : gt a9 k = x at e
      generalize hy : gt b9 k = y at e
      obtain ⟨x1,x2,x4⟩:=x
      obtain ⟨y1,y2,y4⟩:=y
      repeat' (first|(with_reducible first|refine Wx.h ?_|refine We.h fun K hK=>?_|refine Wd.h fun K M hK hM=>?_|(refine hK _ _ _ _ ?_;clear hK K;try clear hM M)|(refine hM ?_;clear hM M;try clear hK K)|refine Wb.h fun K hK=>?_|(refine hK _ ?_;clear hK K)|(refine wT ?_ ?_;· assumption)|(refine wF ?_ ?_;· assumption))|((with_reducible refine kQ ?_ ?_);kernel_rfl)|((with_reducible refine k1 ?_ ?_);rfl)|((with_reducible refine k0 ?_ ?_);rfl)|((with_reducible apply kB)<;>first|rfl|intro h)|((with_reducible refine kM ?_ ?_);rfl)|(with_reducible refine Wq.h ?_ ?_)<;>intro h<;>try (exfalso;omega)|(with_reducible refine Wu.h ?_ ?_)<;>intro h<;>try simp only [h]|((fail_if_success with_reducible refine Wz.h ?_);first|simp (disch:=omega) only [↓LD,LA,loadA_rf,seval,LSt,stF,load_fSg,len_fSg,Sg.cs,hx,hy,bytes_map,-loadA_rf]|((with_reducible refine And.intro ?_ ?_);omega)|simp only [D.int,D.bool]))
      all_goals first|exact end1 rfl rfl (by kernel_rfl) .f hff|(exfalso;have h5:=Eq.mp bb_inj h;subst_vars;exact e rfl)
  have e9 : a9 = b9:=by
    have:=eqB_true (eqB_end q9 hv (by omega));exact this
  have he : (⟨a1,a2,a3,a4,a5,a6,a7,a8,a9⟩ : S12) = ⟨b1,b2,b3,b4,b5,b6,a7,a8,b9⟩:=by
    rw [q1,q2,q3,q4,show a5 = b5 by simpa using q5,show a6 = b6 from eqB_true (by simpa using q6),e9]
  rw [eqB_t he] at hQ
  repeat' (first|(with_reducible first|refine Wx.h ?_|refine Wb.h fun K hK=>?_|(refine hK _ ?_;clear hK K)|(refine wT ?_ ?_;· assumption)|(refine wF ?_ ?_;· assumption))|((with_reducible refine kQ ?_ ?_);kernel_rfl)|((with_reducible refine k1 ?_ ?_);rfl)|((with_reducible refine k0 ?_ ?_);rfl)|((with_reducible apply kB)<;>first|rfl|intro h)|((with_reducible refine kM ?_ ?_);rfl)|(with_reducible refine Wq.h ?_ ?_)<;>intro h<;>try (exfalso;omega)|(with_reducible refine Wu.h ?_ ?_)<;>intro h<;>try simp only [h]|((fail_if_success with_reducible refine Wz.h ?_);first|simp (disch:=omega) only [↓LD,LA,loadA_rf,seval,LSt,stF]|((with_reducible refine And.intro ?_ ?_);omega)|simp only [D.int,D.bool]))
  exact end1 rfl rfl (by kernel_rfl) .f hQ
theorem has_of {P : Program} {f : FuncId} (h : ((P.funcs[f]?).bind fun fn=>fn.body).isSome = true) : ∃ fn,P.funcs[f]? = some fn ∧ fn.body.isSome = true:=by
  cases hf : P.funcs[f]? with
  | none=>rw [hf] at h;cases h
  | some fn=>rw [hf] at h;exact ⟨fn,rfl,h⟩
theorem kn12_run : isTrue (runF Tryz.prog noExt 60 8 [] []) = true:=by kernel_rfl
theorem c_st_known : Con Tryz.prog 8 [] [] fun r H'=>r = D.bool true ∧ H' = [] :=
  (Con.run good (noExt_ok _) (has_of (by kernel_rfl)) (isTrue_eq (by rw [← runF_eq];exact kn12_run))).mono fun _ _ h=>h
instance {H : List Row} {K : Bool → D → List Row → Prop} : Wa (callDr Tryz.prog (.fn 8 []) [] H K) (K true (.f (.v (.bool true))) H):=⟨fun h=>callDr_pure c_st_known rfl rfl rfl h⟩
def s_law_StateSame : SCode :=
  (jq ([.a 10 (.mv kF)]) (jq ((ap [jm 17 0,jm 18 2,.a 19 (.call (kC 6) [(.t 17),(.t 18)])] (ap [.a 20 (.call (kC 5) [(.t 19)])] [jm 16 20,jE 21 0 16,
 jE 22 1 16,.a 11 (.alloc 29 [jI,jI,jI,jI,jF,jN,jN,jN,jN]),.n (.store 9 (.t 11) (.t 21)),jm 12 22]))) (jq ((ap [jm 23 1,jm 24 2,.a 25
 (.call (kC 6) [(.t 23),(.t 24)])] [jm 13 25])) (.seq (jq ([jm 26 4]) (jc 26 (jq ((ap [jm 27 0,jm 28 2,.a 29 (.call (kC 6) [(.t 27),(.t 28)])] [jm
 13 29])) (.ops (ap [jm 30 13,jm 31 13,je 32 31,jm 33 13,je 34 33,jm 35 3,.a 36 (.call (kC 7) [(.t 35),(kI 3)])] [.a 37 (.mm false (.t 34) (.t
 36)),jB 38 .sub 32 37,.a 39 (.sub 9 42 (.t 30) none (some (.t 38)) none),jm 13 39]))) .skip)) (jq ((ap [jm 41 13,.a 42 (.call (kC 5) [(.t 41)])]
 [jm 40 42,jE 43 0 40,jE 44 1 40,.a 14 (.alloc 29 [jI,jI,jI,jI,jF,jN,jN,jN,jN]),.n (.store 9 (.t 14) (.t 43)),jm 15 44])) (.seq (.drw [.a
 45 (.call (kC 8) []),jm 46 45,jG 47 (.loadA 9 (.t 11)) 46 true,jG 48 (.loadA 9 (.t 14)) 46 true,jG 49 (.call (kC 9) [(.t 47),(.t 48)]) 46 true,jG
 50 (.loadA 9 (.t 11)) 46 true,jG 51 (.loadA 9 (.t 14)) 46 true,jG 52 (.call (kC 10) [(.t 50),(.t 51)]) 46 true,jG 53 (.binb .eql (.t 49) (.t 52))
 46 true,.a 54 (.pick (.t 46) (.t 53) kF),jm 10 54] [0,1,3,3,15,3,3,127,255,511,1023]) .ret))))))
theorem fn_law_StateSame : Fn Tryz.prog 3 55 [.t 10] s_law_StateSame:=.of Tryz.func3 (by kernel_rfl)
set_option maxHeartbeats 4000000
theorem subS_fEvS {H : List Row} {E : TypeId} {b : List Ev} {h : Nat} (hh : h ≤ b.length) : subS H 9 E (.f (fEv b)) 0 h = some (.f (fEv (b.take h))):=by
  rw [fEv,subS_s,fEv,List.length_take,Nat.min_eq_left hh]
  have key : ∀ (l : List Ev) (k : Nat),(l.flatMap Ev.cs).take (k * 9) = (l.take k).flatMap Ev.cs:=by
    intro l
    induction l with
    | nil=>intro k;simp
    | cons e l ih =>
      intro k
      cases k with
      | zero=>simp
      | succ k =>
        rw [List.take_succ_cons,List.flatMap_cons,List.flatMap_cons,List.take_append,List.take_of_length_le (by rw [Ev.cs_len];omega),Ev.cs_len,show (k + 1) * 9 - 9 = k * 9 by omega,ih]
  simp [key]
instance {l : List Ev} {H : List Row} {K : D → List Row → Prop} [hl : Kn (l.length ≤ 1000000)] [hf : Kn (∀ e ∈ l,FitV e)] : Wa (callW Tryz.prog (.fn 5 []) [.f (fEv l)] H K)
    (K (.tp [sA (foldR s0 l).2,.f (.v (.int .i64 (foldR s0 l).1))]) H):=⟨fun h=>callW_pure (c_ref_Fold l hl.h hf.h) rfl rfl rfl h⟩
instance {s t : S12} {H : List Row} {K : Bool → D → List Row → Prop} [hs : Kn (FitS s)] [ht : Kn (FitS t)] : Wa (callDr Tryz.prog (.fn 9 []) [sA s,sA t] H K) (K true (.f (.v (.bool (eqB s t)))) H):=⟨fun h=>callDr_pure (c_st_Same s t hs.h ht.h) rfl rfl rfl h⟩
instance {s t : S12} {H : List Row} {K : Bool → D → List Row → Prop} [hs : Kn (FitS s)] [ht : Kn (FitS t)] : Wa (callDr Tryz.prog (.fn 10 []) [sA s,sA t] H K) (K true (.f (.v (.bool (eqB s t)))) H):=⟨fun h=>callDr_pure (c_ref_SameState s t hs.h ht.h) rfl rfl rfl h⟩
theorem BrOk.fits {b : List Ev} (hb : BrOk b) (c : Nat) : FitS (foldR s0 (b.take c)).2 :=
  (foldR_ok ok12_0 (fun e he=>hb.fit e (List.mem_of_mem_take he)) (foldR_part hb.fold)).wk.fit.fit
set_option maxRecDepth 100000 in
theorem c_law_StateSame (a b : List Rw) (defs : List Rd) (cut : Int) (near : Bool) : Con Tryz.prog 3 [.f (fRw a),.f (fRw b),.f (fR defs),D.int cut,D.bool near] [] fun r H'=>r = .f (.v (.bool true)) ∧ H' = []:=by
  refine Con.walk good fn_law_StateSame (by simp) ?_
  unfold s_law_StateSame
  simp only [argsE]
  repeat' (first|(with_reducible first|refine Wx.h ?_|refine Wb.h fun K hK=>?_|(refine hK _ ?_;clear hK K)|(refine wT ?_ ?_;· assumption)|(refine wF ?_ ?_;· assumption))|((with_reducible refine kQ ?_ ?_);kernel_rfl)|((with_reducible refine k1 ?_ ?_);rfl)|((with_reducible refine k0 ?_ ?_);rfl)|((with_reducible apply kB)<;>first|rfl|intro h)|((with_reducible refine kM ?_ ?_);rfl)|(with_reducible refine Wq.h ?_ ?_)<;>intro h<;>try (exfalso;omega)|(with_reducible refine Wu.h ?_ ?_)<;>intro h<;>try simp only [h]|((fail_if_success with_reducible refine Wz.h ?_);first|simp (disch:=omega) only [↓LD,LA,loadA_rf,seval]|((with_reducible refine And.intro ?_ ?_);omega)|simp only [D.int,D.bool]))
  refine callW_emb (c_play_Branch a defs) [] (by kernel_rfl) rfl rfl ?_
  rintro _ _ ⟨x,rfl,hx,rfl⟩
  simp (disch:=omega) only [↓LD,LA,loadA_rf,seval,ren,List.getElem?_nil]
  have hxl:=hx.len
  haveI : Kn (x.length ≤ 1000000):=⟨by omega⟩
  haveI : Kn (∀ e ∈ x,FitV e):=⟨hx.fit⟩
  haveI : Kn (FitS (foldR s0 x).2):=⟨hx.ok.wk.fit.fit⟩
  repeat' (first|(with_reducible first|refine Wx.h ?_|refine Wb.h fun K hK=>?_|(refine hK _ ?_;clear hK K)|(refine wT ?_ ?_;· assumption)|(refine wF ?_ ?_;· assumption))|((with_reducible refine kQ ?_ ?_);kernel_rfl)|((with_reducible refine k1 ?_ ?_);rfl)|((with_reducible refine k0 ?_ ?_);rfl)|((with_reducible apply kB)<;>first|rfl|intro h)|((with_reducible refine kM ?_ ?_);rfl)|(with_reducible refine Wq.h ?_ ?_)<;>intro h<;>try (exfalso;omega)|(with_reducible refine Wu.h ?_ ?_)<;>intro h<;>try simp only [h]|((fail_if_success with_reducible refine Wz.h ?_);first|simp (disch:=omega) only [↓LD,LA,loadA_rf,seval]|((with_reducible refine And.intro ?_ ?_);omega)|simp only [D.int,D.bool]))
  refine callW_emb (c_play_Branch b defs) [] (by kernel_rfl) rfl rfl ?_
  rintro _ _ ⟨y,rfl,hy,rfl⟩
  simp (disch:=omega) only [↓LD,LA,loadA_rf,seval,ren,List.getElem?_nil]
  have hyl:=hy.len
  haveI : Kn (y.length ≤ 1000000):=⟨by omega⟩
  haveI : Kn (∀ e ∈ y,FitV e):=⟨hy.fit⟩
  haveI : Kn (FitS (foldR s0 y).2):=⟨hy.ok.wk.fit.fit⟩
  cases near
  · repeat' (first|(with_reducible first|refine Wx.h ?_|refine We.h fun K hK=>?_|refine Wd.h fun K M hK hM=>?_|(refine hK _ _ _ _ ?_;clear hK K;try clear hM M)|(refine hM ?_;clear hM M;try clear hK K)|refine Wb.h fun K hK=>?_|(refine hK _ ?_;clear hK K)|(refine wT ?_ ?_;· assumption)|(refine wF ?_ ?_;· assumption))|((with_reducible refine kQ ?_ ?_);kernel_rfl)|((with_reducible refine k1 ?_ ?_);rfl)|((with_reducible refine k0 ?_ ?_);rfl)|((with_reducible apply kB)<;>first|rfl|intro h)|((with_reducible refine kM ?_ ?_);rfl)|(with_reducible refine Wq.h ?_ ?_)<;>intro h<;>try (exfalso;omega)|(with_reducible refine Wu.h ?_ ?_)<;>intro h<;>try simp only [h]|((fail_if_success with_reducible refine Wz.h ?_);first|simp (disch:=omega) only [↓LD,LA,loadA_rf,seval,LEv]|((with_reducible refine And.intro ?_ ?_);omega)|simp only [D.int,D.bool]))
    all_goals exact end1 rfl rfl (by kernel_rfl) .f ⟨by simp,rfl⟩
  · repeat' (first|(with_reducible first|refine Wx.h ?_|refine Wb.h fun K hK=>?_|(refine hK _ ?_;clear hK K)|(refine wT ?_ ?_;· assumption)|(refine wF ?_ ?_;· assumption))|((with_reducible refine kQ ?_ ?_);kernel_rfl)|((with_reducible refine k1 ?_ ?_);rfl)|((with_reducible refine k0 ?_ ?_);rfl)|((with_reducible apply kB)<;>first|rfl|intro h)|((with_reducible refine kM ?_ ?_);rfl)|(with_reducible refine Wq.h ?_ ?_)<;>intro h<;>try (exfalso;omega)|(with_reducible refine Wu.h ?_ ?_)<;>intro h<;>try simp only [h]|((fail_if_success with_reducible refine Wz.h ?_);first|simp (disch:=omega) only [↓LD,LA,loadA_rf,seval]|((with_reducible refine And.intro ?_ ?_);omega)|simp only [D.int,D.bool]))
    refine callW_emb (c_play_Branch a defs) [] (by kernel_rfl) rfl rfl ?_
    rintro _ _ ⟨z,rfl,hz,rfl⟩
    simp (disch:=omega) only [↓LD,LA,loadA_rf,seval,ren,List.getElem?_nil]
    have hzl:=hz.len
    have pk:=pick_in (x:=cut) (n:=3) (by omega)
    obtain ⟨c,hc,hc2⟩ : ∃ c : Nat,(z.length : Int) - min (z.length : Int) (pick cut 3) = c ∧ c ≤ z.length:=⟨((z.length : Int) - min (z.length : Int) (pick cut 3)).toNat,by omega,by omega⟩
    haveI : Kn ((z.take c).length ≤ 1000000):=⟨by simp;omega⟩
    haveI : Kn (∀ e ∈ z.take c,FitV e):=⟨fun e he=>hz.fit e (List.mem_of_mem_take he)⟩
    haveI : Kn (FitS (foldR s0 (z.take c)).2):=⟨hz.fits c⟩
    have hs : ∀ H : List Row,subS H 9 42 (.f (fEv z)) 0 c = some (.f (fEv (z.take c))):=fun H=>subS_fEvS (by omega)
    repeat' (first|(with_reducible first|refine Wx.h ?_|refine We.h fun K hK=>?_|refine Wd.h fun K M hK hM=>?_|(refine hK _ _ _ _ ?_;clear hK K;try clear hM M)|(refine hM ?_;clear hM M;try clear hK K)|refine Wb.h fun K hK=>?_|(refine hK _ ?_;clear hK K)|(refine wT ?_ ?_;· assumption)|(refine wF ?_ ?_;· assumption))|((with_reducible refine kQ ?_ ?_);kernel_rfl)|((with_reducible refine k1 ?_ ?_);rfl)|((with_reducible refine k0 ?_ ?_);rfl)|((with_reducible apply kB)<;>first|rfl|intro h)|((with_reducible refine kM ?_ ?_);rfl)|(with_reducible refine Wq.h ?_ ?_)<;>intro h<;>try (exfalso;omega)|(with_reducible refine Wu.h ?_ ?_)<;>intro h<;>try simp only [h]|((fail_if_success with_reducible refine Wz.h ?_);first|simp (disch:=omega) only [↓LD,LA,loadA_rf,seval,LEv,hc,hs,Int.toNat_natCast]|((with_reducible refine And.intro ?_ ?_);omega)|simp only [D.int,D.bool]))
    all_goals exact end1 rfl rfl (by kernel_rfl) .f ⟨by simp,rfl⟩
end Go.Proofs.YtgbbpelfpagdoaaGreatDoor.Mir
namespace Go.Proofs.YtgbbpelfpagdoaaGreatDoor
open Go Go.RowKit
theorem stateSame_walk (W : World) (hg : ∀ p ∈ Mir.glTab,Mir.RF W (fun _=>False) p.1 p.2) (a0 : Option Addr) (c0 : Nat) (xs : List RwIn) (a1 : Option Addr) (c1 : Nat) (ys : List RwIn) (a2 : Option Addr) (c2 : Nat) (zs : List RawIn) (n : Int) (b : Bool) (h : InS rwV (rwOk W) 64 W a0 c0 xs) (h1 : InS rwV (rwOk W) 64 W a1 c1 ys) (k : InS rawV (rawOk W) 40 W a2 c2 zs) (_ : -9223372036854775808 ≤ n ∧ n ≤ 9223372036854775807) :
    Calls Tryz.prog 3 #[.slice a0 xs.length c0,.slice a1 ys.length c1,.slice a2 zs.length c2,.int .i64 n,.bool b] W fun e w'=>e = .returned (.bool true) ∧ Below W.heap.size W w' :=
  Mir.Con.calls (Mir.c_law_StateSame (xs.map rwDD) (ys.map rwDD) (zs.map rawD) n b) hg fun _ hA=>.one (.f (rf_rws hA h)) (.one (.f (rf_rws hA h1)) (.one (.f (rf_raws hA k)) (.one (.f (.v rfl)) (.one (.f (.v rfl)) .none))))
end Go.Proofs.YtgbbpelfpagdoaaGreatDoor
