/- Texts laid into one file: EvT, CState, CByte, St, StC, DagB. -/
import Derived.Test.YtgbbpelfpagdoaaSt08

set_option linter.unusedVariables false
set_option linter.unusedSimpArgs false
/- Events: what is right, by the program: an event's parts; all of it. -/
namespace Go.Proofs.Ytgbbpelfpagdoaa.Mir
open Go Go.RowKit
set_option linter.unusedVariables false
set_option linter.unusedSimpArgs false
set_option maxHeartbeats 4000000

/-- An event. -/
structure Ev where
  id : Int
  ver : Int
  time : Int
  ty : Int
  node : Int
  n : Int
  name : Bs
  data : Bs
  defs : List Nd
  deriving Inhabited, DecidableEq
def Ev.cs (e : Ev) : List F := [iF e.id, iF e.ver, iF e.time, iF e.ty, iF e.node, iF e.n, .v (.string (BB e.name)), fY e.data, fG e.defs]
theorem Ev.cs_len (e : Ev) : e.cs.length = 9 := rfl
def evD (e : Ev) : D := .ag [D.int e.id, D.int e.ver, D.int e.time, D.int e.ty, D.int e.node, D.int e.n, .f (.v (.string (BB e.name))), .f (fY e.data), .f (fG e.defs)]
def evB (e : Ev) : Row := .box 37 [D.int e.id, D.int e.ver, D.int e.time, D.int e.ty, D.int e.node, D.int e.n, .f (.v (.string (BB e.name))), .f (fY e.data), .f (fG e.defs)]
class Small (ds : List Nd) : Prop where h : FitN ds ∧ ds.length < 1000000
/-- What a type names. -/
def pNode (k : Int) : Bool := decide (k = 2) || decide (k = 3) || decide (k = 4)
def pName (k : Int) : Bool := decide (k = 5) || decide (k = 6) || decide (k = 7)
def pData (k : Int) : Bool := decide (k = 3) || decide (k = 7)
def pDefs (k : Int) : Bool := decide (k = 1)
def pN (k : Int) : Int := if pNode k then 5 else if k = 5 then 1048576 else 0
def pOk (k : Int) : Bool := inI k 1 12
def partD (k : Int) : D := .ag [D.bool (pNode k), D.bool (pName k), D.bool (pData k), D.bool (pDefs k), D.int (pN k)]
theorem c_ev_named (k : Int) : Con Try.prog 25 [D.int k] [] fun r H' => r = .tp [partD k, D.bool (pOk k)] ∧ H' = [] := by
  refine Con.walk good fn_ev_named (by simp) ?_
  unfold s_ev_named
  simp only [argsE]
  repeat' (first | (with_reducible first | refine Wa.h ?_ | refine Ws.h ?_ | refine Wr.h ?_ | refine Wb.h fun K hK => ?_ | (refine hK _ ?_; clear hK K)) | ((with_reducible refine kQ ?_ ?_); kernel_rfl) | ((with_reducible refine k1 ?_ ?_); rfl) | ((with_reducible refine k0 ?_ ?_); rfl) | ((with_reducible apply kB) <;> first | rfl | intro h) | ((with_reducible refine kM ?_ ?_); rfl) | ((with_reducible refine wuT ?_ ?_); · assumption) | ((with_reducible refine wuF ?_ ?_); · assumption) | ((with_reducible refine wtT ?_ ?_); · assumption) | ((with_reducible refine wtF ?_ ?_); · assumption) | (with_reducible refine Wt.h (fun h => ?_) (fun h => ?_)) <;> try (exfalso; omega) | (with_reducible refine Wu.h (fun h => ?_) (fun h => ?_)) <;> try simp only [h] | (with_reducible refine Wn.h (fun h => ?_) ?_) <;> try (exfalso; omega) | ((fail_if_success with_reducible refine Wz.h ?_); simp (disch := omega) only [↓LD, LU, LS, LT, loadA_rf, seval]) | ((with_reducible refine And.intro ?_ ?_); omega) | ((fail_if_success with_reducible refine Wz.h ?_); simp only [D.int, D.bool]))
  all_goals first
    | (subst h
       exact RetS.still (ds := [partD _, D.bool (pOk _)]) (by kernel_rfl) (by kernel_rfl) (.tps (.cons (.ags (.cons .f (.cons .f (.cons .f (.cons .f (.cons .f .nil)))))) (.cons .f .nil))) ⟨rfl, rfl⟩)
    | skip
  have e : partD k = .ag [D.bool false, D.bool false, D.bool false, D.bool false, D.int 0] ∧ pOk k = false := by
    have : ¬ (1 ≤ k ∧ k ≤ 12) := by omega
    constructor
    · simp [partD, pNode, pName, pData, pDefs, pN, *]
    · simp [pOk, inI]; omega
  rw [e.1, e.2]
  exact RetS.still (ds := [.ag [D.bool false, D.bool false, D.bool false, D.bool false, D.int 0], D.bool false]) (by kernel_rfl) (by kernel_rfl) (.tps (.cons (.ags (.cons .f (.cons .f (.cons .f (.cons .f (.cons .f .nil)))))) (.cons .f .nil))) ⟨rfl, rfl⟩
instance {k : Int} {H : List Row} {K : D → List Row → Prop} : Wa (callW Try.prog (.fn 25 []) [.f (.v (.int .i64 k))] H K) (K (.tp [.ag [.f (.v (.bool (pNode k))), .f (.v (.bool (pName k))), .f (.v (.bool (pData k))), .f (.v (.bool (pDefs k))), .f (.v (.int .i64 (pN k)))], .f (.v (.bool (pOk k)))]) H) :=
  ⟨callW_pure (c_ev_named k) rfl rfl rfl⟩
def numB (nd : Bool) (m : Int) (node n : Int) : Bool := (nd || decide (node = 0)) && (decide (m ≠ 0) || decide (n = 0)) && inI node 0 7 && (decide (m = 0) || inI n 1 m)
theorem c_ev_numbers (nd nm da df : Bool) (m : Int) (e : Ev) : Con Try.prog 28 [.ag [D.bool nd, D.bool nm, D.bool da, D.bool df, D.int m], evD e] [] fun r H' => r = D.bool (numB nd m e.node e.n) ∧ H' = [] := by
  refine Con.walk good fn_ev_numbers (by simp) ?_
  unfold s_ev_numbers evD
  simp only [argsE]
  repeat' (first | (with_reducible first | refine Wa.h ?_ | refine Ws.h ?_ | refine Wr.h ?_ | refine Wb.h fun K hK => ?_ | (refine hK _ ?_; clear hK K)) | ((with_reducible refine kQ ?_ ?_); kernel_rfl) | ((with_reducible refine k1 ?_ ?_); rfl) | ((with_reducible refine k0 ?_ ?_); rfl) | ((with_reducible apply kB) <;> first | rfl | intro h) | ((with_reducible refine kM ?_ ?_); rfl) | ((with_reducible refine wuT ?_ ?_); · assumption) | ((with_reducible refine wuF ?_ ?_); · assumption) | ((with_reducible refine wtT ?_ ?_); · assumption) | ((with_reducible refine wtF ?_ ?_); · assumption) | (with_reducible refine Wt.h (fun h => ?_) (fun h => ?_)) <;> try (exfalso; omega) | (with_reducible refine Wu.h (fun h => ?_) (fun h => ?_)) <;> try simp only [h] | (with_reducible refine Wn.h (fun h => ?_) ?_) <;> try (exfalso; omega) | ((fail_if_success with_reducible refine Wz.h ?_); simp (disch := omega) only [↓LD, LU, LS, LT, loadA_rf, seval]) | ((with_reducible refine And.intro ?_ ?_); omega) | ((fail_if_success with_reducible refine Wz.h ?_); simp only [D.int, D.bool]))
  all_goals (refine end1 rfl rfl (by kernel_rfl) .f ⟨congrArg D.bool ?_, rfl⟩; simp_all [numB, inI])
  all_goals omega
instance {nd nm da df : Bool} {m : Int} {e : Ev} {H : List Row} {K : D → List Row → Prop} : Wa (callW Try.prog (.fn 28 []) [.ag [.f (.v (.bool nd)), .f (.v (.bool nm)), .f (.v (.bool da)), .f (.v (.bool df)), .f (.v (.int .i64 m))],
    .ag [.f (.v (.int .i64 e.id)), .f (.v (.int .i64 e.ver)), .f (.v (.int .i64 e.time)), .f (.v (.int .i64 e.ty)), .f (.v (.int .i64 e.node)), .f (.v (.int .i64 e.n)), .f (.v (.string (BB e.name))), .f (fY e.data), .f (fG e.defs)]] H K) (K (.f (.v (.bool (numB nd m e.node e.n)))) H) :=
  ⟨callW_pure (c_ev_numbers nd nm da df m e) rfl rfl rfl⟩
def textB (nm da : Bool) (name data : Bs) : Bool := (nm == decide (name ≠ [])) && (!nm || nameB name) && (decide (data = []) || (da && decide (data.length ≤ 40)))
theorem c_ev_texts (nd nm da df : Bool) (m : Int) (e : Ev) : Con Try.prog 29 [.ag [D.bool nd, D.bool nm, D.bool da, D.bool df, D.int m], evD e] [] fun r H' => r = D.bool (textB nm da e.name e.data) ∧ H' = [] := by
  refine Con.walk good fn_ev_texts (by simp) ?_
  unfold s_ev_texts evD
  simp only [argsE]
  have hz : ((e.data.length : Int) = 0) = (e.data = []) := by apply propext; cases e.data <;> simp; omega
  repeat' (first | (with_reducible first | refine Wa.h ?_ | refine Ws.h ?_ | refine Wr.h ?_ | refine Wb.h fun K hK => ?_ | (refine hK _ ?_; clear hK K)) | ((with_reducible refine kQ ?_ ?_); kernel_rfl) | ((with_reducible refine k1 ?_ ?_); rfl) | ((with_reducible refine k0 ?_ ?_); rfl) | ((with_reducible apply kB) <;> first | rfl | intro h) | ((with_reducible refine kM ?_ ?_); rfl) | ((with_reducible refine wuT ?_ ?_); · assumption) | ((with_reducible refine wuF ?_ ?_); · assumption) | ((with_reducible refine wtT ?_ ?_); · assumption) | ((with_reducible refine wtF ?_ ?_); · assumption) | (with_reducible refine Wt.h (fun h => ?_) (fun h => ?_)) <;> try (exfalso; omega) | (with_reducible refine Wu.h (fun h => ?_) (fun h => ?_)) <;> try simp only [h] | (with_reducible refine Wn.h (fun h => ?_) ?_) <;> try (exfalso; omega) | ((fail_if_success with_reducible refine Wz.h ?_); simp (disch := omega) only [↓LD, LU, LS, LT, loadA_rf, seval, fY, hz]) | ((with_reducible refine And.intro ?_ ?_); omega) | ((fail_if_success with_reducible refine Wz.h ?_); simp only [D.int, D.bool]))
  all_goals (refine end1 rfl rfl (by kernel_rfl) .f ⟨congrArg D.bool ?_, rfl⟩; simp_all [textB])
  all_goals omega
instance {nd nm da df : Bool} {m : Int} {e : Ev} {H : List Row} {K : D → List Row → Prop} : Wa (callW Try.prog (.fn 29 []) [.ag [.f (.v (.bool nd)), .f (.v (.bool nm)), .f (.v (.bool da)), .f (.v (.bool df)), .f (.v (.int .i64 m))],
    .ag [.f (.v (.int .i64 e.id)), .f (.v (.int .i64 e.ver)), .f (.v (.int .i64 e.time)), .f (.v (.int .i64 e.ty)), .f (.v (.int .i64 e.node)), .f (.v (.int .i64 e.n)), .f (.v (.string (BB e.name))), .f (fY e.data), .f (fG e.defs)]] H K) (K (.f (.v (.bool (textB nm da e.name e.data)))) H) :=
  ⟨callW_pure (c_ev_texts nd nm da df m e) rfl rfl rfl⟩
instance {ds : List Nd} {H : List Row} {K : D → List Row → Prop} [hf : Small ds] : Wa (callW Try.prog (.fn 30 []) [.f (fG ds)] H K) (K (.f (.v (.bool (defsB ds)))) H) :=
  ⟨callW_pure (c_ev_rightDefs ds hf.h.1 hf.h.2) rfl rfl rfl⟩
/-- A right event. -/
def rightE (e : Ev) : Bool := pOk e.ty && inI e.id 1 200 && verB e.ver && inI e.time 0 1099511627776 && numB (pNode e.ty) (pN e.ty) e.node e.n && textB (pName e.ty) (pData e.ty) e.name e.data && (if pDefs e.ty then defsB e.defs else decide (e.defs = []))
theorem c_ev_Right (e : Ev) (hf : FitN e.defs) (hl : e.defs.length < 1000000) : Con Try.prog 19 [evD e] [] fun r H' => r = D.bool (rightE e) ∧ H' = [] := by
  haveI : Small e.defs := ⟨⟨hf, hl⟩⟩
  refine Con.walk good fn_ev_Right (by simp) ?_
  unfold s_ev_Right evD
  simp only [argsE]
  have hz : ((e.defs.length : Int) = 0) = (e.defs = []) := by apply propext; cases e.defs <;> simp; omega
  repeat' (first | (with_reducible first | refine Wa.h ?_ | refine Ws.h ?_ | refine Wr.h ?_ | refine Wb.h fun K hK => ?_ | (refine hK _ ?_; clear hK K)) | ((with_reducible refine kQ ?_ ?_); kernel_rfl) | ((with_reducible refine k1 ?_ ?_); rfl) | ((with_reducible refine k0 ?_ ?_); rfl) | ((with_reducible apply kB) <;> first | rfl | intro h) | ((with_reducible refine kM ?_ ?_); rfl) | ((with_reducible refine wuT ?_ ?_); · assumption) | ((with_reducible refine wuF ?_ ?_); · assumption) | ((with_reducible refine wtT ?_ ?_); · assumption) | ((with_reducible refine wtF ?_ ?_); · assumption) | (with_reducible refine Wt.h (fun h => ?_) (fun h => ?_)) <;> try (exfalso; omega) | (with_reducible refine Wu.h (fun h => ?_) (fun h => ?_)) <;> try simp only [h] | (with_reducible refine Wn.h (fun h => ?_) ?_) <;> try (exfalso; omega) | ((fail_if_success with_reducible refine Wz.h ?_); simp (disch := omega) only [↓LD, LU, LS, LT, loadA_rf, seval, hz]) | ((with_reducible refine And.intro ?_ ?_); omega) | ((fail_if_success with_reducible refine Wz.h ?_); simp only [D.int, D.bool]))
  all_goals (refine end1 rfl rfl (by kernel_rfl) .f ⟨congrArg D.bool ?_, rfl⟩; simp_all [rightE])
instance {e : Ev} {H : List Row} {K : D → List Row → Prop} [hf : Small e.defs] : Wa (callW Try.prog (.fn 19 []) [.ag [.f (.v (.int .i64 e.id)), .f (.v (.int .i64 e.ver)), .f (.v (.int .i64 e.time)), .f (.v (.int .i64 e.ty)), .f (.v (.int .i64 e.node)), .f (.v (.int .i64 e.n)), .f (.v (.string (BB e.name))), .f (fY e.data), .f (fG e.defs)]] H K)
    (K (.f (.v (.bool (rightE e)))) H) :=
  ⟨callW_pure (c_ev_Right e hf.h.1 hf.h.2) rfl rfl rfl⟩
end Go.Proofs.Ytgbbpelfpagdoaa.Mir

/- Functions of the program, told without it. -/
namespace Go.Proofs.Ytgbbpelfpagdoaa.Mir
open Go Go.RowKit

/-- cutover.event.Copy -/
def s_ev_Copy : SCode :=
  (.seq (.ops [.a 1 (.box 37 (.t 0)), .a 2 (.alloc 37 [jI, jI, jI, jI, jI, jI, (.f (.v (.string ⟨#[]⟩))), jN, jN])]) (.seq (.drw [.a 4 (.off 7 (.t 1)),
 .a 5 (.load1 (.t 4)), .a 6 (.call (kC 18) [(.t 5)]), .a 7 (.off 8 (.t 1)), .a 8 (.load1 (.t 7)), .a 9 (.call (kC 23) [(.t 8)]), .a 10 (.off 7 (.t 1)),
 .n (.store 1 (.t 10) (.t 6)), .a 11 (.off 8 (.t 1)), .n (.store 1 (.t 11) (.t 9))] [0, 1, 3, 0, 8, 31, 31, 127, 255, 511]) (.seq (.seq (.ops [.a 12
 (.off 8 (.t 1)), .a 13 (.load1 (.t 12)), .a 14 (.slen (.t 13)), .a 15 (.mv (kI 0))]) (.block 0 (.loop (.seq (.ops [.a 16 (.bin .lss (.t 15) (.t 14))])
 (.seq (.cond (.t 16) .skip (.exit 0)) (.seq (.block 1 (.seq (.ops [.a 17 (.mv (.t 15)), .a 3 (.mv (.t 17))]) (.drw [.a 18 (.off 8 (.t 1)), .a 19
 (.load1 (.t 18)), .a 20 (.mv (.t 3)), .a 21 (.off 8 (.t 1)), .a 22 (.load1 (.t 21)), .a 23 (.mv (.t 3)), .a 24 (.idx 3 (.t 22) (.t 23)), .a 25 (.off 0
 (.t 24)), .a 26 (.load1 (.t 25)), .a 27 (.call (kC 24) [(.t 26)]), .a 28 (.idx 3 (.t 19) (.t 20)), .a 29 (.off 0 (.t 28)), .n (.store 1 (.t 29) (.t
 27))] [0, 1, 0, 0, 8, 0, 56, 120, 248, 504, 1023, 2047, 4095]))) (.ops [.a 30 (.bin .add (.t 15) (kI 1)), .a 15 (.mv (.t 30))]))))))) (.seq (.ops [.a
 31 (.loadA 9 (.t 1)), .n (.store 9 (.t 2) (.t 31))]) .ret))))
theorem fn_ev_Copy : Fn Try.prog 14 32 [.cA 9 2] s_ev_Copy := .of Try.func14 (by kernel_rfl)

/-- slices.Clone[[]cutover.api.Def,cutover.api.Def] -/
def s_def_Clone : SCode :=
  (.seq (.ops [.a 2 (.mv kN)]) (.seq (.seq (.ops [.a 3 (.mv (.t 0)), .a 4 (.nilq true 0 (.t 3) kN)]) (.cond (.t 4) (.seq (.ops [.a 2 (.mv kN)]) .ret)
 .skip)) (.seq (.ops (ap [.a 5 (.bsl 34 3 0 [] []), .a 6 (.mv (.t 0)), .a 7 (.app 34 3 40 (.t 5) (.t 6))] [.a 2 (.mv (.t 7))])) .ret)))
theorem fn_def_Clone : Fn Try.prog 23 8 [.t 2] s_def_Clone := .of Try.func23 (by kernel_rfl)

/-- slices.Clone[[]cutover.state.Node,cutover.state.Node] -/
def s_nd_Clone : SCode :=
  (.seq (.ops [.a 2 (.mv kN)]) (.seq (.seq (.ops [.a 3 (.mv (.t 0)), .a 4 (.nilq true 0 (.t 3) kN)]) (.cond (.t 4) (.seq (.ops [.a 2 (.mv kN)]) .ret)
 .skip)) (.seq (.ops (ap [.a 5 (.bsl 39 4 0 [] []), .a 6 (.mv (.t 0)), .a 7 (.app 39 4 48 (.t 5) (.t 6))] [.a 2 (.mv (.t 7))])) .ret)))
theorem fn_nd_Clone : Fn Try.prog 15 8 [.t 2] s_nd_Clone := .of Try.func15 (by kernel_rfl)

/-- slices.Clone[[]cutover.state.Timer,cutover.state.Timer] -/
def s_tm_Clone : SCode :=
  (.seq (.ops [.a 2 (.mv kN)]) (.seq (.seq (.ops [.a 3 (.mv (.t 0)), .a 4 (.nilq true 0 (.t 3) kN)]) (.cond (.t 4) (.seq (.ops [.a 2 (.mv kN)]) .ret)
 .skip)) (.seq (.ops (ap [.a 5 (.bsl 55 3 0 [] []), .a 6 (.mv (.t 0)), .a 7 (.app 55 3 32 (.t 5) (.t 6))] [.a 2 (.mv (.t 7))])) .ret)))
theorem fn_tm_Clone : Fn Try.prog 16 8 [.t 2] s_tm_Clone := .of Try.func16 (by kernel_rfl)

/-- slices.Clone[[]cutover.state.Signal,cutover.state.Signal] -/
def s_sg_Clone : SCode :=
  (.seq (.ops [.a 2 (.mv kN)]) (.seq (.seq (.ops [.a 3 (.mv (.t 0)), .a 4 (.nilq true 0 (.t 3) kN)]) (.cond (.t 4) (.seq (.ops [.a 2 (.mv kN)]) .ret)
 .skip)) (.seq (.ops (ap [.a 5 (.bsl 58 3 0 [] []), .a 6 (.mv (.t 0)), .a 7 (.app 58 3 48 (.t 5) (.t 6))] [.a 2 (.mv (.t 7))])) .ret)))
theorem fn_sg_Clone : Fn Try.prog 17 8 [.t 2] s_sg_Clone := .of Try.func17 (by kernel_rfl)

/-- cutover.state.copied -/
def s_st_copied : SCode :=
  (.seq (.ops [.a 1 (.box 28 (.t 0)), .a 2 (.alloc 28 [jI, jI, jI, jI, jF, jN, jN, jN, jN])]) (.seq (.ops (ap [.a 5 (.off 5 (.t 1)), .a 6 (.load1 (.t
 5)), .a 7 (.bld [jI, jI, jI, jI, jI, jI, (.f (.v (.string ⟨#[]⟩))), jN, jN] [(8, 1, (.t 6))]), .a 8 (.call (kC 14) [(.t 7)])] [.a 9 (.fld1 8 (.t 8)),
 .a 10 (.off 5 (.t 1)), .n (.store 1 (.t 10) (.t 9))])) (.seq (.drw [.a 11 (.off 6 (.t 1)), .a 12 (.load1 (.t 11)), .a 13 (.call (kC 15) [(.t 12)]), .a
 14 (.off 7 (.t 1)), .a 15 (.load1 (.t 14)), .a 16 (.call (kC 16) [(.t 15)]), .a 17 (.off 8 (.t 1)), .a 18 (.load1 (.t 17)), .a 19 (.call (kC 17) [(.t
 18)]), .a 20 (.off 6 (.t 1)), .n (.store 1 (.t 20) (.t 13)), .a 21 (.off 7 (.t 1)), .n (.store 1 (.t 21) (.t 16)), .a 22 (.off 8 (.t 1)), .n (.store 1
 (.t 22) (.t 19))] [0, 1, 3, 0, 8, 31, 0, 64, 255, 223, 1023, 2047, 4095, 8191, 16383]) (.seq (.seq (.ops [.a 23 (.off 6 (.t 1)), .a 24 (.load1 (.t
 23)), .a 25 (.slen (.t 24)), .a 26 (.mv (kI 0))]) (.block 0 (.loop (.seq (.ops [.a 27 (.bin .lss (.t 26) (.t 25))]) (.seq (.cond (.t 27) .skip (.exit
 0)) (.seq (.block 1 (.seq (.ops [.a 28 (.mv (.t 26)), .a 3 (.mv (.t 28))]) (.drw [.a 29 (.off 6 (.t 1)), .a 30 (.load1 (.t 29)), .a 31 (.mv (.t 3)), .a
 32 (.off 6 (.t 1)), .a 33 (.load1 (.t 32)), .a 34 (.mv (.t 3)), .a 35 (.idx 4 (.t 33) (.t 34)), .a 36 (.off 3 (.t 35)), .a 37 (.load1 (.t 36)), .a 38
 (.call (kC 18) [(.t 37)]), .a 39 (.idx 4 (.t 30) (.t 31)), .a 40 (.off 3 (.t 39)), .n (.store 1 (.t 40) (.t 38))] [0, 1, 0, 0, 8, 0, 56, 120, 248, 504,
 1023, 2047, 4095]))) (.ops [.a 41 (.bin .add (.t 26) (kI 1)), .a 26 (.mv (.t 41))]))))))) (.seq (.seq (.ops [.a 42 (.off 8 (.t 1)), .a 43 (.load1 (.t
 42)), .a 44 (.slen (.t 43)), .a 45 (.mv (kI 0))]) (.block 2 (.loop (.seq (.ops [.a 46 (.bin .lss (.t 45) (.t 44))]) (.seq (.cond (.t 46) .skip (.exit
 2)) (.seq (.block 3 (.seq (.ops [.a 47 (.mv (.t 45)), .a 4 (.mv (.t 47))]) (.drw [.a 48 (.off 8 (.t 1)), .a 49 (.load1 (.t 48)), .a 50 (.mv (.t 4)), .a
 51 (.off 8 (.t 1)), .a 52 (.load1 (.t 51)), .a 53 (.mv (.t 4)), .a 54 (.idx 3 (.t 52) (.t 53)), .a 55 (.off 2 (.t 54)), .a 56 (.load1 (.t 55)), .a 57
 (.call (kC 18) [(.t 56)]), .a 58 (.idx 3 (.t 49) (.t 50)), .a 59 (.off 2 (.t 58)), .n (.store 1 (.t 59) (.t 57))] [0, 1, 0, 0, 8, 0, 56, 120, 248, 504,
 1023, 2047, 4095]))) (.ops [.a 60 (.bin .add (.t 45) (kI 1)), .a 45 (.mv (.t 60))]))))))) (.seq (.ops [.a 61 (.loadA 9 (.t 1)), .n (.store 9 (.t 2) (.t
 61))]) .ret))))))
theorem fn_st_copied : Fn Try.prog 9 62 [.cA 9 2] s_st_copied := .of Try.func9 (by kernel_rfl)

/-- (*cutover.state.State).status -/
def s_st_status : SCode :=
  (.seq (.ops [.a 4 (.mv (kI 0))]) (.seq (.ops [.a 5 (.mv (kI 0))]) (.seq (.seq (.ops [.a 8 (.mv (.t 0)), .a 9 (.nilc (.t 8)), .a 10 (.off 6 (.t 9)), .a
 11 (.load1 (.t 10)), .a 12 (.slen (.t 11)), .a 13 (.mv (kI 0))]) (.block 0 (.loop (.seq (.ops [.a 14 (.bin .lss (.t 13) (.t 12))]) (.seq (.cond (.t 14)
 .skip (.exit 0)) (.seq (.block 1 (.seq (.ops [.a 15 (.idx 4 (.t 11) (.t 13)), .a 16 (.loadA 4 (.t 15)), .a 7 (.alloc 39 [jI, jI, jI, jN]), .n (.store 4
 (.t 7) (.t 16))]) (.seq (.ops [.a 17 (.off 0 (.t 7)), .a 18 (.load1 (.t 17)), .a 19 (.mv (.t 1)), .a 20 (.bin .eql (.t 18) (.t 19))]) (.cond (.t 20)
 (.ops [.a 21 (.mv (.t 5)), .a 22 (.bin .add (.t 21) (kI 1)), .a 5 (.mv (.t 22))]) .skip)))) (.ops [.a 23 (.bin .add (.t 13) (kI 1)), .a 13 (.mv (.t
 23))]))))))) (.seq (.ops [.a 24 (.mv (.t 5)), .a 4 (.mv (.t 24))]) .ret))))
theorem fn_st_status : Fn Try.prog 13 25 [.t 4] s_st_status := .of Try.func13 (by kernel_rfl)

/-- (*cutover.state.State).start -/
def s_st_start : SCode :=
  (.seq (.ops [.a 3 (.box 37 (.t 1)), .a 4 (.mv (kI 0))]) (.seq (.seq (.ops (ap [.a 5 (.off 8 (.t 3)), .a 6 (.load1 (.t 5)), .a 7 (.call (kC 21) [(.t
 6)])] [.a 8 (.bin .neq (.t 7) (kI 0))])) (.cond (.t 8) (.seq (.ops [.a 4 (.mv (kI 1))]) .ret) .skip)) (.seq (.ops (ap [.a 9 (.mv (.t 0)), .a 10 (.loadA
 9 (.t 3)), .a 11 (.call (kC 14) [(.t 10)])] [.a 12 (.fld1 8 (.t 11)), .a 13 (.nilc (.t 9)), .a 14 (.off 5 (.t 13)), .n (.store 1 (.t 14) (.t 12))]))
 (.seq (.ops [.a 15 (.mv (.t 0)), .a 16 (.off 8 (.t 3)), .a 17 (.load1 (.t 16)), .a 18 (.slen (.t 17)), .a 19 (.mkslice 39 4 48 [(.v (.int .i64 0)), (.v
 (.int .i64 0)), (.v (.int .i64 0)), (.v (.slice none 0 0))] (.t 18) (.t 18)), .a 20 (.nilc (.t 15)), .a 21 (.off 6 (.t 20)), .n (.store 1 (.t 21) (.t
 19))]) (.seq (.ops [.a 4 (.mv (kI 0))]) .ret)))))
theorem fn_st_start : Fn Try.prog 31 22 [.t 4] s_st_start := .of Try.func31 (by kernel_rfl)

/-- (*cutover.state.State).begin -/
def s_st_begin : SCode :=
  (.seq (.ops [.a 3 (.box 37 (.t 1)), .a 4 (.mv (kI 0))]) (.seq (.seq (.drw [.a 6 (.off 4 (.t 3)), .a 7 (.load1 (.t 6)), .a 8 (.mv (.t 0)), .a 9 (.nilc
 (.t 8)), .a 10 (.off 6 (.t 9)), .a 11 (.load1 (.t 10)), .a 12 (.slen (.t 11)), .a 13 (.mv (.t 0)), .a 14 (.nilc (.t 13)), .a 15 (.off 5 (.t 14)), .a 16
 (.load1 (.t 15)), .a 17 (.slen (.t 16)), .a 18 (.mm false (.t 12) (.t 17)), .a 19 (.bin .geq (.t 7) (.t 18))] [0, 1, 0, 4, 12, 28, 60, 0, 128, 384,
 896, 1920, 4092, 8191]) (.cond (.t 19) (.seq (.ops [.a 4 (.mv (kI 1))]) .ret) .skip)) (.seq (.drw [.a 20 (.mv (.t 0)), .a 21 (.nilc (.t 20)), .a 22
 (.off 6 (.t 21)), .a 23 (.load1 (.t 22)), .a 24 (.off 4 (.t 3)), .a 25 (.load1 (.t 24)), .a 26 (.idx 4 (.t 23) (.t 25)), .a 5 (.mv (.t 26))] [0, 1, 3,
 7, 0, 16, 63, 127]) (.seq (.seq (.drw [.a 27 (.mv (.t 0)), .a 28 (.nilc (.t 27)), .a 29 (.loadA 9 (.t 28)), .a 30 (.call (kC 6) [(.t 29)]), .a 31 (.off
 4 (.t 3)), .a 32 (.load1 (.t 31)), .a 33 (.call (kC 47) [(.t 30), (.t 32)]), .a 34 (.unot (.t 33)), .a 35 (.mv (.t 34)), .g (some 36) (.off 5 (.t 3))
 35 false, .g (some 37) (.load1 (.t 36)) 35 false, .g (some 38) (.mv (.t 5)) 35 false, .g (some 39) (.nilc (.t 38)) 35 false, .g (some 40) (.off 1 (.t
 39)) 35 false, .g (some 41) (.load1 (.t 40)) 35 false, .g (some 42) (.bin .add (.t 41) (kI 1)) 35 false, .g (some 43) (.bin .neq (.t 37) (.t 42)) 35
 false, .a 44 (.pick (.t 35) kT (.t 43))] [0, 1, 3, 7, 0, 16, 63, 127, 255, 511, 1023, 511, 2559, 6655, 14847, 31231, 65535, 131071]) (.cond (.t 44)
 (.seq (.ops [.a 4 (.mv (kI 4))]) .ret) .skip)) (.seq (.drw [.a 45 (.mv (.t 5)), .a 46 (.mv (.t 5)), .a 47 (.mv (.t 5)), .a 48 (.off 5 (.t 3)), .a 49
 (.load1 (.t 48)), .a 50 (.off 2 (.t 3)), .a 51 (.load1 (.t 50)), .a 52 (.mv (.t 0)), .a 53 (.nilc (.t 52)), .a 54 (.off 5 (.t 53)), .a 55 (.load1 (.t
 54)), .a 56 (.off 4 (.t 3)), .a 57 (.load1 (.t 56)), .a 58 (.idx 3 (.t 55) (.t 57)), .a 59 (.off 2 (.t 58)), .a 60 (.load1 (.t 59)), .a 61 (.bin .add
 (.t 51) (.t 60)), .a 62 (.nilc (.t 45)), .a 63 (.off 0 (.t 62)), .n (.store 1 (.t 63) (kI 1)), .a 64 (.nilc (.t 46)), .a 65 (.off 1 (.t 64)), .n
 (.store 1 (.t 65) (.t 49)), .a 66 (.nilc (.t 47)), .a 67 (.off 2 (.t 66)), .n (.store 1 (.t 67) (.t 61))] [0, 0, 0, 0, 8, 0, 32, 0, 128, 384, 896, 0,
 2048, 8064, 16256, 32640, 65504, 65409, 196481, 458625, 982939, 2031515, 4128667, 8388607, 16777215, 33554431]) (.seq (.ops [.a 4 (.mv (kI 0))])
 .ret))))))
theorem fn_st_begin : Fn Try.prog 32 68 [.t 4] s_st_begin := .of Try.func32 (by kernel_rfl)

/-- (*cutover.state.State).end -/
def s_st_end : SCode :=
  (.seq (.ops [.a 3 (.box 37 (.t 1)), .a 4 (.mv (kI 0))]) (.seq (.seq (.drw [.a 6 (.off 4 (.t 3)), .a 7 (.load1 (.t 6)), .a 8 (.mv (.t 0)), .a 9 (.nilc
 (.t 8)), .a 10 (.off 6 (.t 9)), .a 11 (.load1 (.t 10)), .a 12 (.slen (.t 11)), .a 13 (.mv (.t 0)), .a 14 (.nilc (.t 13)), .a 15 (.off 5 (.t 14)), .a 16
 (.load1 (.t 15)), .a 17 (.slen (.t 16)), .a 18 (.mm false (.t 12) (.t 17)), .a 19 (.bin .geq (.t 7) (.t 18))] [0, 1, 0, 4, 12, 28, 60, 0, 128, 384,
 896, 1920, 4092, 8191]) (.cond (.t 19) (.seq (.ops [.a 4 (.mv (kI 1))]) .ret) .skip)) (.seq (.drw [.a 20 (.mv (.t 0)), .a 21 (.nilc (.t 20)), .a 22
 (.off 6 (.t 21)), .a 23 (.load1 (.t 22)), .a 24 (.off 4 (.t 3)), .a 25 (.load1 (.t 24)), .a 26 (.idx 4 (.t 23) (.t 25)), .a 5 (.mv (.t 26))] [0, 1, 3,
 7, 0, 16, 63, 127]) (.seq (.seq (.drw [.a 27 (.mv (.t 5)), .a 28 (.nilc (.t 27)), .a 29 (.off 0 (.t 28)), .a 30 (.load1 (.t 29)), .a 31 (.bin .neq (.t
 30) (kI 1)), .a 32 (.mv (.t 31)), .g (some 33) (.off 5 (.t 3)) 32 false, .g (some 34) (.load1 (.t 33)) 32 false, .g (some 35) (.mv (.t 5)) 32 false, .g
 (some 36) (.nilc (.t 35)) 32 false, .g (some 37) (.off 1 (.t 36)) 32 false, .g (some 38) (.load1 (.t 37)) 32 false, .g (some 39) (.bin .neq (.t 34) (.t
 38)) 32 false, .a 40 (.pick (.t 32) kT (.t 39))] [0, 1, 3, 7, 15, 31, 63, 127, 63, 319, 831, 1855, 4095, 8191]) (.cond (.t 40) (.seq (.ops [.a 4 (.mv
 (kI 4))]) .ret) .skip)) (.seq (.ops [.a 41 (.mv (.t 5)), .a 42 (.nilc (.t 41)), .a 43 (.off 2 (.t 42)), .n (.store 1 (.t 43) (kI 0))]) (.seq (.block 0
 (.seq (.ops (ap [.a 48 (.off 3 (.t 3)), .a 49 (.load1 (.t 48)), .a 50 (.bin .eql (.t 49) (kI 3))] [.a 47 (.mv (.t 50))])) (.cond (.t 47) (.ops (ap [.a
 51 (.mv (.t 5)), .a 52 (.mv (.t 5)), .a 53 (.off 7 (.t 3)), .a 54 (.load1 (.t 53)), .a 55 (.call (kC 18) [(.t 54)])] [.a 56 (.nilc (.t 51)), .a 57
 (.off 0 (.t 56)), .n (.store 1 (.t 57) (kI 2)), .a 58 (.nilc (.t 52)), .a 59 (.off 3 (.t 58)), .n (.store 1 (.t 59) (.t 55))])) (.seq (.drw [.a 61 (.mv
 (.t 5)), .a 62 (.nilc (.t 61)), .a 63 (.off 1 (.t 62)), .a 64 (.load1 (.t 63)), .a 65 (.mv (.t 0)), .a 66 (.nilc (.t 65)), .a 67 (.off 5 (.t 66)), .a
 68 (.load1 (.t 67)), .a 69 (.off 4 (.t 3)), .a 70 (.load1 (.t 69)), .a 71 (.idx 3 (.t 68) (.t 70)), .a 72 (.off 1 (.t 71)), .a 73 (.load1 (.t 72)), .a
 74 (.bin .eql (.t 64) (.t 73)), .a 60 (.mv (.t 74))] [0, 1, 3, 7, 0, 16, 48, 112, 0, 256, 1008, 2032, 4080, 8191, 16383]) (.cond (.t 60) (.ops [.a 75
 (.mv (.t 5)), .a 76 (.nilc (.t 75)), .a 77 (.off 0 (.t 76)), .n (.store 1 (.t 77) (kI 3))]) (.ops [.a 44 (.mv (.t 5)), .a 45 (.nilc (.t 44)), .a 46
 (.off 0 (.t 45)), .n (.store 1 (.t 46) (kI 0))])))))) (.seq (.ops [.a 4 (.mv (kI 0))]) .ret)))))))
theorem fn_st_end : Fn Try.prog 33 78 [.t 4] s_st_end := .of Try.func33 (by kernel_rfl)

/-- (*cutover.state.State).timer -/
def s_st_timer : SCode :=
  (.seq (.ops [.a 3 (.box 9 (.t 1)), .a 4 (.mv (kI 0))]) (.seq (.ops (ap [.a 5 (.mv (.t 0)), .a 6 (.nilc (.t 5)), .a 7 (.off 7 (.t 6)), .a 8 (.load1 (.t
 7)), .a 9 (.fn 53 [(.t 3)]), .a 10 (.call (kC 52) [(.t 8), (.t 9)])] [.a 4 (.mv (.t 10))])) .ret))
theorem fn_st_timer : Fn Try.prog 48 11 [.t 4] s_st_timer := .of Try.func48 (by kernel_rfl)

/-- (*cutover.state.State).timer$1 -/
def s_st_timer1 : SCode :=
  (.seq (.ops [.a 2 (.box 55 (.t 0)), .a 3 (.mv kF)]) (.seq (.ops (ap [.a 4 (.off 0 (.t 2)), .a 5 (.load1 (.t 4)), .a 6 (.load1 (.t 1)), .a 7 (.bin .eql
 (.t 5) (.t 6))] [.a 3 (.mv (.t 7))])) .ret))
theorem fn_st_timer1 : Fn Try.prog 53 8 [.t 3] s_st_timer1 := .of Try.func53 (by kernel_rfl)

/-- slices.IndexFunc[[]cutover.state.Timer,cutover.state.Timer] -/
def s_tm_IndexFunc : SCode :=
  (.seq (.ops [.a 4 (.mv (kI 0))]) (.seq (.seq (.ops [.a 6 (.mv (.t 0)), .a 7 (.slen (.t 6)), .a 8 (.mv (kI 0))]) (.block 0 (.loop (.seq (.ops [.a 9
 (.bin .lss (.t 8) (.t 7))]) (.seq (.cond (.t 9) .skip (.exit 0)) (.seq (.block 1 (.seq (.ops [.a 10 (.mv (.t 8)), .a 5 (.mv (.t 10))]) (.seq (.ops [.a
 11 (.mv (.t 1)), .a 12 (.mv (.t 0)), .a 13 (.mv (.t 5)), .a 14 (.idx 3 (.t 12) (.t 13)), .a 15 (.loadA 3 (.t 14)), .a 16 (.call (.t 11) [(.t 15)])])
 (.cond (.t 16) (.seq (.ops [.a 17 (.mv (.t 5)), .a 4 (.mv (.t 17))]) .ret) .skip)))) (.ops [.a 18 (.bin .add (.t 8) (kI 1)), .a 8 (.mv (.t 18))])))))))
 (.seq (.ops [.a 4 (.mv (kI (-1)))]) .ret)))
theorem fn_tm_IndexFunc : Fn Try.prog 52 19 [.t 4] s_tm_IndexFunc := .of Try.func52 (by kernel_rfl)

/-- (*cutover.state.State).arm -/
def s_st_arm : SCode :=
  (.seq (.ops [.a 3 (.box 37 (.t 1)), .a 4 (.mv (kI 0))]) (.seq (.block 0 (.seq (.ops (ap [.a 6 (.mv (.t 0)), .a 7 (.off 6 (.t 3)), .a 8 (.load1 (.t 7)),
 .a 9 (.call (kC 48) [(.t 6), (.t 8)])] (ap [.a 10 (.bin .geq (.t 9) (kI 0))] [.a 5 (.mv (.t 10))]))) (.cond (.t 5) (.seq (.ops [.a 4 (.mv (kI 13))])
 .ret) (.seq (.ops (ap [.a 12 (.mv (.t 0)), .a 13 (.nilc (.t 12)), .a 14 (.off 7 (.t 13)), .a 15 (.load1 (.t 14)), .a 16 (.slen (.t 15)), .a 17 (.bin
 .geq (.t 16) (kI 8))] [.a 11 (.mv (.t 17))])) (.cond (.t 11) (.seq (.ops [.a 4 (.mv (kI 4))]) .ret) .skip))))) (.seq (.drw [.a 18 (.mv (.t 0)), .a 19
 (.mv (.t 0)), .a 20 (.nilc (.t 19)), .a 21 (.off 7 (.t 20)), .a 22 (.load1 (.t 21)), .a 23 (.off 6 (.t 3)), .a 24 (.load1 (.t 23)), .a 25 (.off 2 (.t
 3)), .a 26 (.load1 (.t 25)), .a 27 (.off 5 (.t 3)), .a 28 (.load1 (.t 27)), .a 29 (.bin .add (.t 26) (.t 28)), .a 30 (.bld [(.f (.v (.string ⟨#[]⟩))),
 jI, jF] [(0, 1, (.t 24)), (1, 1, (.t 29))]), .a 31 (.bsl 55 3 1 [(.f (.v (.string ⟨#[]⟩))), jI, jF] [(0, (.t 30))]), .a 32 (.app 55 3 32 (.t 22) (.t
 31)), .a 33 (.nilc (.t 18)), .a 34 (.off 7 (.t 33)), .n (.store 1 (.t 34) (.t 32))] [0, 0, 2, 6, 14, 0, 32, 0, 128, 0, 512, 1920, 4064, 8160, 16382,
 32767, 65535, 131071]) (.seq (.ops [.a 4 (.mv (kI 0))]) .ret))))
theorem fn_st_arm : Fn Try.prog 34 35 [.t 4] s_st_arm := .of Try.func34 (by kernel_rfl)

/-- (*cutover.state.State).fire -/
def s_st_fire : SCode :=
  (.seq (.ops [.a 3 (.box 37 (.t 1)), .a 4 (.mv (kI 0))]) (.seq (.ops (ap [.a 6 (.mv (.t 0)), .a 7 (.off 6 (.t 3)), .a 8 (.load1 (.t 7)), .a 9 (.call (kC
 48) [(.t 6), (.t 8)])] [.a 5 (.mv (.t 9))])) (.seq (.seq (.drw [.a 10 (.mv (.t 5)), .a 11 (.bin .lss (.t 10) (kI 0)), .a 12 (.mv (.t 11)), .g (some 13)
 (.mv (.t 0)) 12 false, .g (some 14) (.nilc (.t 13)) 12 false, .g (some 15) (.off 7 (.t 14)) 12 false, .g (some 16) (.load1 (.t 15)) 12 false, .g (some
 17) (.mv (.t 5)) 12 false, .g (some 18) (.idx 3 (.t 16) (.t 17)) 12 false, .g (some 19) (.off 2 (.t 18)) 12 false, .g (some 20) (.load1 (.t 19)) 12
 false, .a 21 (.pick (.t 12) kT (.t 20)), .a 22 (.mv (.t 21)), .g (some 23) (.off 2 (.t 3)) 22 false, .g (some 24) (.load1 (.t 23)) 22 false, .g (some
 25) (.mv (.t 0)) 22 false, .g (some 26) (.nilc (.t 25)) 22 false, .g (some 27) (.off 7 (.t 26)) 22 false, .g (some 28) (.load1 (.t 27)) 22 false, .g
 (some 29) (.mv (.t 5)) 22 false, .g (some 30) (.idx 3 (.t 28) (.t 29)) 22 false, .g (some 31) (.off 1 (.t 30)) 22 false, .g (some 32) (.load1 (.t 31))
 22 false, .g (some 33) (.bin .lss (.t 24) (.t 32)) 22 false, .a 34 (.pick (.t 22) kT (.t 33))] [0, 1, 3, 7, 15, 31, 63, 7, 255, 511, 1023, 2047, 4095,
 8191, 16383, 8191, 40959, 106495, 237567, 8191, 1023999, 2072575, 4169727, 8388607, 16777215]) (.cond (.t 34) (.seq (.ops [.a 4 (.mv (kI 4))]) .ret)
 .skip)) (.seq (.ops [.a 35 (.mv (.t 0)), .a 36 (.nilc (.t 35)), .a 37 (.off 7 (.t 36)), .a 38 (.load1 (.t 37)), .a 39 (.mv (.t 5)), .a 40 (.idx 3 (.t
 38) (.t 39)), .a 41 (.off 2 (.t 40)), .n (.store 1 (.t 41) kT)]) (.seq (.ops [.a 4 (.mv (kI 0))]) .ret)))))
theorem fn_st_fire : Fn Try.prog 35 42 [.t 4] s_st_fire := .of Try.func35 (by kernel_rfl)

/-- (*cutover.state.State).signal -/
def s_st_signal : SCode :=
  (.seq (.ops [.a 3 (.box 37 (.t 1)), .a 4 (.mv (kI 0))]) (.seq (.seq (.drw [.a 5 (.mv (.t 0)), .a 6 (.nilc (.t 5)), .a 7 (.loadA 9 (.t 6)), .a 8 (.off 6
 (.t 3)), .a 9 (.load1 (.t 8)), .a 10 (.call (kC 49) [(.t 7), (.t 9)])] [0, 1, 3, 0, 8, 31]) (.cond (.t 10) (.seq (.ops [.a 4 (.mv (kI 13))]) .ret)
 .skip)) (.seq (.drw [.a 11 (.mv (.t 0)), .a 12 (.mv (.t 0)), .a 13 (.nilc (.t 12)), .a 14 (.off 8 (.t 13)), .a 15 (.load1 (.t 14)), .a 16 (.off 6 (.t
 3)), .a 17 (.load1 (.t 16)), .a 18 (.off 0 (.t 3)), .a 19 (.load1 (.t 18)), .a 20 (.off 7 (.t 3)), .a 21 (.load1 (.t 20)), .a 22 (.call (kC 18) [(.t
 21)]), .a 23 (.bld [(.f (.v (.string ⟨#[]⟩))), jI, jN] [(0, 1, (.t 17)), (1, 1, (.t 19)), (2, 1, (.t 22))]), .a 24 (.bsl 58 3 1 [(.f (.v (.string
 ⟨#[]⟩))), jI, jN] [(0, (.t 23))]), .a 25 (.app 58 3 48 (.t 15) (.t 24)), .a 26 (.nilc (.t 11)), .a 27 (.off 8 (.t 26)), .n (.store 1 (.t 27) (.t 25))]
 [0, 0, 2, 6, 14, 0, 32, 0, 128, 0, 512, 1536, 4064, 8160, 16382, 32767, 65535, 131071]) (.seq (.ops [.a 4 (.mv (kI 0))]) .ret))))
theorem fn_st_signal : Fn Try.prog 36 28 [.t 4] s_st_signal := .of Try.func36 (by kernel_rfl)

/-- (*cutover.state.State).cancel -/
def s_st_cancel : SCode :=
  (.seq (.ops [.a 2 (.mv (kI 0))]) (.seq (.seq (.ops [.a 3 (.mv (.t 0)), .a 4 (.nilc (.t 3)), .a 5 (.off 4 (.t 4)), .a 6 (.load1 (.t 5))]) (.cond (.t 6)
 (.seq (.ops [.a 2 (.mv (kI 4))]) .ret) .skip)) (.seq (.ops [.a 7 (.mv (.t 0)), .a 8 (.nilc (.t 7)), .a 9 (.off 4 (.t 8)), .n (.store 1 (.t 9) kT)])
 (.seq (.ops [.a 2 (.mv (kI 0))]) .ret))))
theorem fn_st_cancel : Fn Try.prog 37 10 [.t 2] s_st_cancel := .of Try.func37 (by kernel_rfl)

/-- (*cutover.state.State).closing -/
def s_st_closing : SCode :=
  (.seq (.ops [.a 4 (.mv kF)]) (.seq (.seq (.ops [.a 5 (.mv (.t 1))]) (.block 0 (.seq (.ops (ap [.a 7 (.bin .eql (.t 5) (kI 9))] [.a 6 (.mv (.t 7))]))
 (.cond (.t 6) (.seq (.drw [.a 8 (.mv (.t 0)), .a 9 (.call (kC 13) [(.t 8), (kI 2)]), .a 10 (.mv (.t 0)), .a 11 (.nilc (.t 10)), .a 12 (.off 6 (.t 11)),
 .a 13 (.load1 (.t 12)), .a 14 (.slen (.t 13)), .a 15 (.bin .eql (.t 9) (.t 14)), .a 4 (.mv (.t 15))] [0, 1, 0, 4, 12, 28, 60, 127, 255]) .ret) (.seq
 (.ops (ap [.a 17 (.bin .eql (.t 5) (kI 10))] [.a 16 (.mv (.t 17))])) (.cond (.t 16) (.seq (.ops (ap [.a 18 (.mv (.t 0)), .a 19 (.call (kC 13) [(.t 18),
 (kI 3)])] (ap [.a 20 (.bin .gtr (.t 19) (kI 0))] [.a 4 (.mv (.t 20))]))) .ret) (.seq (.ops (ap [.a 22 (.bin .eql (.t 5) (kI 11))] [.a 21 (.mv (.t
 22))])) (.cond (.t 21) (.seq (.ops (ap [.a 23 (.mv (.t 0)), .a 24 (.nilc (.t 23)), .a 25 (.off 4 (.t 24)), .a 26 (.load1 (.t 25)), .a 27 (.mv (.t 26)),
 .g (some 28) (.mv (.t 0)) 27 true] (ap [.g (some 29) (.call (kC 13) [(.t 28), (kI 1)]) 27 true] (ap [.g (some 30) (.bin .eql (.t 29) (kI 0)) 27 true]
 [.a 31 (.pick (.t 27) (.t 30) kF), .a 4 (.mv (.t 31))])))) .ret) .skip)))))))) (.seq (.ops [.a 4 (.mv kT)]) .ret)))
theorem fn_st_closing : Fn Try.prog 38 32 [.t 4] s_st_closing := .of Try.func38 (by kernel_rfl)

/-- (*cutover.state.State).turn -/
def s_st_turn : SCode :=
  (.seq (.ops [.a 3 (.box 37 (.t 1)), .a 4 (.mv (kI 0))]) (.seq (.seq (.ops [.a 5 (.off 3 (.t 3)), .a 6 (.load1 (.t 5))]) (.block 0 (.seq (.ops (ap [.a 8
 (.bin .eql (.t 6) (kI 1))] [.a 7 (.mv (.t 8))])) (.cond (.t 7) (.seq (.ops (ap [.a 9 (.mv (.t 0)), .a 10 (.loadA 9 (.t 3)), .a 11 (.call (kC 31) [(.t
 9), (.t 10)])] [.a 4 (.mv (.t 11))])) .ret) (.seq (.ops (ap [.a 13 (.bin .eql (.t 6) (kI 2))] [.a 12 (.mv (.t 13))])) (.cond (.t 12) (.seq (.ops (ap
 [.a 14 (.mv (.t 0)), .a 15 (.loadA 9 (.t 3)), .a 16 (.call (kC 32) [(.t 14), (.t 15)])] [.a 4 (.mv (.t 16))])) .ret) (.seq (.seq (.ops (ap [.a 18 (.bin
 .eql (.t 6) (kI 3))] [.a 17 (.mv (.t 18))])) (.cond (.t 17) .skip (.ops (ap [.a 19 (.bin .eql (.t 6) (kI 4))] [.a 17 (.mv (.t 19))])))) (.cond (.t 17)
 (.seq (.ops (ap [.a 20 (.mv (.t 0)), .a 21 (.loadA 9 (.t 3)), .a 22 (.call (kC 33) [(.t 20), (.t 21)])] [.a 4 (.mv (.t 22))])) .ret) (.seq (.ops (ap
 [.a 24 (.bin .eql (.t 6) (kI 5))] [.a 23 (.mv (.t 24))])) (.cond (.t 23) (.seq (.ops (ap [.a 25 (.mv (.t 0)), .a 26 (.loadA 9 (.t 3)), .a 27 (.call (kC
 34) [(.t 25), (.t 26)])] [.a 4 (.mv (.t 27))])) .ret) (.seq (.ops (ap [.a 29 (.bin .eql (.t 6) (kI 6))] [.a 28 (.mv (.t 29))])) (.cond (.t 28) (.seq
 (.ops (ap [.a 30 (.mv (.t 0)), .a 31 (.loadA 9 (.t 3)), .a 32 (.call (kC 35) [(.t 30), (.t 31)])] [.a 4 (.mv (.t 32))])) .ret) (.seq (.ops (ap [.a 34
 (.bin .eql (.t 6) (kI 7))] [.a 33 (.mv (.t 34))])) (.cond (.t 33) (.seq (.ops (ap [.a 35 (.mv (.t 0)), .a 36 (.loadA 9 (.t 3)), .a 37 (.call (kC 36)
 [(.t 35), (.t 36)])] [.a 4 (.mv (.t 37))])) .ret) (.seq (.ops (ap [.a 39 (.bin .eql (.t 6) (kI 8))] [.a 38 (.mv (.t 39))])) (.cond (.t 38) (.seq (.ops
 (ap [.a 40 (.mv (.t 0)), .a 41 (.call (kC 37) [(.t 40)])] [.a 4 (.mv (.t 41))])) .ret) .skip)))))))))))))))) (.seq (.seq (.ops (ap [.a 42 (.mv (.t 0)),
 .a 43 (.off 3 (.t 3)), .a 44 (.load1 (.t 43)), .a 45 (.call (kC 38) [(.t 42), (.t 44)])] [.a 46 (.unot (.t 45))])) (.cond (.t 46) (.seq (.ops [.a 4
 (.mv (kI 4))]) .ret) .skip)) (.seq (.ops [.a 47 (.mv (.t 0)), .a 48 (.off 3 (.t 3)), .a 49 (.load1 (.t 48)), .a 50 (.nilc (.t 47)), .a 51 (.off 3 (.t
 50)), .n (.store 1 (.t 51) (.t 49))]) (.seq (.ops [.a 4 (.mv (kI 0))]) .ret)))))
theorem fn_st_turn : Fn Try.prog 20 52 [.t 4] s_st_turn := .of Try.func20 (by kernel_rfl)

/-- (*cutover.state.State).apply -/
def s_st_apply : SCode :=
  (.seq (.ops [.a 3 (.box 37 (.t 1)), .a 4 (.mv (kI 0))]) (.seq (.block 0 (.seq (.drw [.a 7 (.loadA 9 (.t 3)), .a 8 (.call (kC 19) [(.t 7)]), .a 9 (.unot
 (.t 8)), .a 10 (.mv (.t 9)), .g (some 11) (.off 0 (.t 3)) 10 false, .g (some 12) (.load1 (.t 11)) 10 false, .g (some 13) (.mv (.t 0)) 10 false, .g
 (some 14) (.nilc (.t 13)) 10 false, .g (some 15) (.off 0 (.t 14)) 10 false, .g (some 16) (.load1 (.t 15)) 10 false, .g (some 17) (.bin .add (.t 16) (kI
 1)) 10 false, .g (some 18) (.bin .neq (.t 12) (.t 17)) 10 false, .a 19 (.pick (.t 10) kT (.t 18)), .a 20 (.mv (.t 19)), .g (some 21) (.off 1 (.t 3)) 20
 false, .g (some 22) (.load1 (.t 21)) 20 false, .g (some 23) (.mv (.t 0)) 20 false, .g (some 24) (.nilc (.t 23)) 20 false, .g (some 25) (.off 1 (.t 24))
 20 false, .g (some 26) (.load1 (.t 25)) 20 false, .g (some 27) (.bin .lss (.t 22) (.t 26)) 20 false, .a 28 (.pick (.t 20) kT (.t 27)), .a 29 (.mv (.t
 28)), .g (some 30) (.off 2 (.t 3)) 29 false, .g (some 31) (.load1 (.t 30)) 29 false, .g (some 32) (.mv (.t 0)) 29 false, .g (some 33) (.nilc (.t 32))
 29 false, .g (some 34) (.off 2 (.t 33)) 29 false, .g (some 35) (.load1 (.t 34)) 29 false, .g (some 36) (.bin .lss (.t 31) (.t 35)) 29 false, .a 37
 (.pick (.t 29) kT (.t 36)), .a 6 (.mv (.t 37))] [0, 1, 3, 7, 15, 31, 15, 79, 207, 463, 975, 2047, 4095, 8191, 16383, 32767, 16383, 81919, 212991,
 475135, 1048575, 2097151, 4194303, 8388607, 16777215, 8388607, 41943039, 109051903, 243269631, 536870911, 1073741823, 2147483647]) (.cond (.t 6) (.seq
 (.ops [.a 4 (.mv (kI 1))]) .ret) (.seq (.ops (ap [.a 39 (.mv (.t 0)), .a 40 (.nilc (.t 39)), .a 41 (.off 3 (.t 40)), .a 42 (.load1 (.t 41)), .a 43
 (.bin .neq (.t 42) (kI 0))] [.a 38 (.mv (.t 43))])) (.cond (.t 38) (.seq (.ops [.a 4 (.mv (kI 12))]) .ret) (.seq (.drw [.a 45 (.mv (.t 0)), .a 46
 (.nilc (.t 45)), .a 47 (.off 0 (.t 46)), .a 48 (.load1 (.t 47)), .a 49 (.bin .eql (.t 48) (kI 0)), .a 50 (.off 3 (.t 3)), .a 51 (.load1 (.t 50)), .a 52
 (.bin .eql (.t 51) (kI 1)), .a 53 (.binb .neq (.t 49) (.t 52)), .a 44 (.mv (.t 53))] [0, 1, 3, 7, 15, 0, 32, 96, 255, 511]) (.cond (.t 44) (.seq (.ops
 [.a 4 (.mv (kI 4))]) .ret) .skip))))))) (.seq (.ops (ap [.a 54 (.mv (.t 0)), .a 55 (.loadA 9 (.t 3)), .a 56 (.call (kC 20) [(.t 54), (.t 55)])] [.a 5
 (.mv (.t 56))])) (.seq (.drw [.a 57 (.mv (.t 0)), .a 58 (.mv (.t 0)), .a 59 (.mv (.t 0)), .a 60 (.off 0 (.t 3)), .a 61 (.load1 (.t 60)), .a 62 (.off 1
 (.t 3)), .a 63 (.load1 (.t 62)), .a 64 (.off 2 (.t 3)), .a 65 (.load1 (.t 64)), .a 66 (.nilc (.t 57)), .a 67 (.off 0 (.t 66)), .n (.store 1 (.t 67) (.t
 61)), .a 68 (.nilc (.t 58)), .a 69 (.off 1 (.t 68)), .n (.store 1 (.t 69) (.t 63)), .a 70 (.nilc (.t 59)), .a 71 (.off 2 (.t 70)), .n (.store 1 (.t 71)
 (.t 65))] [0, 0, 0, 0, 8, 0, 32, 0, 128, 25, 537, 1561, 3707, 7803, 15995, 32767, 65535, 131071]) (.seq (.ops [.a 72 (.mv (.t 5)), .a 4 (.mv (.t 72))])
 .ret)))))
theorem fn_st_apply : Fn Try.prog 10 73 [.t 4] s_st_apply := .of Try.func10 (by kernel_rfl)

/-- cutover.state.Apply -/
def s_st_Apply : SCode :=
  (.seq (.ops [.a 2 (.box 28 (.t 0)), .a 3 (.box 37 (.t 1)), .a 4 (.alloc 28 [jI, jI, jI, jI, jF, jN, jN, jN, jN]), .a 5 (.mv (kI 0))]) (.seq (.ops (ap
 [.a 8 (.loadA 9 (.t 2)), .a 9 (.call (kC 9) [(.t 8)])] [.a 6 (.alloc 28 [jI, jI, jI, jI, jF, jN, jN, jN, jN]), .n (.store 9 (.t 6) (.t 9))])) (.seq
 (.seq (.ops (ap [.a 10 (.loadA 9 (.t 3)), .a 11 (.call (kC 10) [(.t 6), (.t 10)])] [.a 7 (.mv (.t 11))])) (.seq (.ops [.a 12 (.mv (.t 7)), .a 13 (.bin
 .neq (.t 12) (kI 0))]) (.cond (.t 13) (.seq (.ops [.a 14 (.bld [jI, jI, jI, jI, jF, jN, jN, jN, jN] []), .a 15 (.mv (.t 7)), .n (.store 9 (.t 4) (.t
 14)), .a 5 (.mv (.t 15))]) .ret) .skip))) (.seq (.ops [.a 16 (.loadA 9 (.t 6)), .n (.store 9 (.t 4) (.t 16)), .a 5 (.mv (kI 0))]) .ret))))
theorem fn_st_Apply : Fn Try.prog 5 17 [.cA 9 4, .t 5] s_st_Apply := .of Try.func5 (by kernel_rfl)

/-- cutover.state.Fold -/
def s_st_Fold : SCode :=
  (.seq (.ops [.a 2 (.alloc 28 [jI, jI, jI, jI, jF, jN, jN, jN, jN]), .a 3 (.mv (kI 0))]) (.seq (.ops [.a 8 (.bld [jI, jI, jI, jI, jF, jN, jN, jN, jN]
 []), .a 4 (.alloc 28 [jI, jI, jI, jI, jF, jN, jN, jN, jN]), .n (.store 9 (.t 4) (.t 8))]) (.seq (.seq (.ops [.a 9 (.mv (.t 0)), .a 10 (.slen (.t 9)),
 .a 11 (.mv (kI 0))]) (.block 0 (.loop (.seq (.ops [.a 12 (.bin .lss (.t 11) (.t 10))]) (.seq (.cond (.t 12) .skip (.exit 0)) (.seq (.block 1 (.seq
 (.ops [.a 13 (.idx 9 (.t 9) (.t 11)), .a 14 (.loadA 9 (.t 13)), .a 6 (.alloc 37 [jI, jI, jI, jI, jI, jI, (.f (.v (.string ⟨#[]⟩))), jN, jN]), .n
 (.store 9 (.t 6) (.t 14))]) (.seq (.ops (ap [.a 15 (.loadA 9 (.t 6)), .a 16 (.call (kC 10) [(.t 4), (.t 15)])] [.a 7 (.mv (.t 16))])) (.seq (.ops [.a
 17 (.mv (.t 7)), .a 18 (.bin .neq (.t 17) (kI 0))]) (.cond (.t 18) (.seq (.ops [.a 19 (.bld [jI, jI, jI, jI, jF, jN, jN, jN, jN] []), .a 20 (.mv (.t
 7)), .n (.store 9 (.t 2) (.t 19)), .a 3 (.mv (.t 20))]) .ret) .skip))))) (.ops [.a 21 (.bin .add (.t 11) (kI 1)), .a 11 (.mv (.t 21))]))))))) (.seq
 (.ops [.a 22 (.loadA 9 (.t 4)), .n (.store 9 (.t 2) (.t 22)), .a 3 (.mv (kI 0))]) .ret))))
theorem fn_st_Fold : Fn Try.prog 12 23 [.cA 9 2, .t 3] s_st_Fold := .of Try.func12 (by kernel_rfl)

/-- cutover.state.Ready -/
def s_st_Ready : SCode :=
  (.seq (.ops [.a 1 (.box 28 (.t 0)), .a 2 (.mv kN)]) (.seq (.seq (.ops (ap [.a 9 (.off 3 (.t 1)), .a 10 (.load1 (.t 9)), .a 11 (.bin .neq (.t 10) (kI
 0))] (ap [.a 12 (.mv (.t 11)), .g (some 13) (.off 4 (.t 1)) 12 false] [.g (some 14) (.load1 (.t 13)) 12 false, .a 15 (.pick (.t 12) kT (.t 14))])))
 (.cond (.t 15) (.seq (.ops [.a 2 (.mv kN)]) .ret) .skip)) (.seq (.ops [.a 16 (.off 6 (.t 1)), .a 17 (.load1 (.t 16)), .a 18 (.slen (.t 17)), .a 19
 (.mkslice 4 1 1 [(.v (.bool false))] (.t 18) (.t 18)), .a 3 (.mv (.t 19))]) (.seq (.seq (.ops [.a 20 (.off 6 (.t 1)), .a 21 (.load1 (.t 20)), .a 22
 (.slen (.t 21)), .a 23 (.mv (kI 0))]) (.block 0 (.loop (.seq (.ops [.a 24 (.bin .lss (.t 23) (.t 22))]) (.seq (.cond (.t 24) .skip (.exit 0)) (.seq
 (.block 1 (.seq (.ops [.a 25 (.mv (.t 23)), .a 26 (.idx 4 (.t 21) (.t 23)), .a 27 (.loadA 4 (.t 26)), .a 5 (.alloc 39 [jI, jI, jI, jN]), .a 4 (.mv (.t
 25)), .n (.store 4 (.t 5) (.t 27))]) (.ops (ap [.a 28 (.mv (.t 3)), .a 29 (.mv (.t 4)), .a 30 (.off 0 (.t 5)), .a 31 (.load1 (.t 30)), .a 32 (.bin .eql
 (.t 31) (kI 2))] [.a 33 (.idx 1 (.t 28) (.t 29)), .n (.store 1 (.t 33) (.t 32))])))) (.ops [.a 34 (.bin .add (.t 23) (kI 1)), .a 23 (.mv (.t
 34))]))))))) (.seq (.ops [.a 6 (.mv kN)]) (.seq (.seq (.ops (ap [.a 35 (.off 5 (.t 1)), .a 36 (.load1 (.t 35)), .a 37 (.mv (.t 3)), .a 38 (.call (kC
 11) [(.t 36), (.t 37)])] [.a 39 (.slen (.t 38)), .a 40 (.mv (kI 0))])) (.block 2 (.loop (.seq (.ops [.a 41 (.bin .lss (.t 40) (.t 39))]) (.seq (.cond
 (.t 41) .skip (.exit 2)) (.seq (.block 3 (.seq (.ops [.a 42 (.idx 1 (.t 38) (.t 40)), .a 43 (.load1 (.t 42)), .a 8 (.mv (.t 43))]) (.seq (.ops (ap [.a
 44 (.mv (.t 8)), .a 45 (.off 6 (.t 1)), .a 46 (.load1 (.t 45)), .a 47 (.slen (.t 46)), .a 48 (.bin .lss (.t 44) (.t 47))] (ap [.a 49 (.mv (.t 48)), .g
 (some 50) (.off 6 (.t 1)) 49 true] (ap [.g (some 51) (.load1 (.t 50)) 49 true, .g (some 52) (.mv (.t 8)) 49 true, .g (some 53) (.idx 4 (.t 51) (.t 52))
 49 true, .g (some 54) (.off 0 (.t 53)) 49 true, .g (some 55) (.load1 (.t 54)) 49 true, .g (some 56) (.bin .eql (.t 55) (kI 0)) 49 true] [.a 57 (.pick
 (.t 49) (.t 56) kF)])))) (.cond (.t 57) (.ops (ap [.a 58 (.mv (.t 6)), .a 59 (.mv (.t 8)), .a 60 (.bsl 3 1 1 [jI] [(0, (.t 59))]), .a 61 (.app 3 1 8
 (.t 58) (.t 60))] [.a 6 (.mv (.t 61))])) .skip)))) (.ops [.a 62 (.bin .add (.t 40) (kI 1)), .a 40 (.mv (.t 62))]))))))) (.seq (.ops [.a 63 (.mv (.t
 6)), .a 2 (.mv (.t 63))]) .ret)))))))
theorem fn_st_Ready : Fn Try.prog 6 64 [.t 2] s_st_Ready := .of Try.func6 (by kernel_rfl)

/-- cutover.state.Ending -/
def s_st_Ending : SCode :=
  (.seq (.ops [.a 1 (.box 28 (.t 0)), .a 2 (.mv (kI 0))]) (.seq (.block 0 (.seq (.ops (ap [.a 4 (.off 3 (.t 1)), .a 5 (.load1 (.t 4)), .a 6 (.bin .neq
 (.t 5) (kI 0))] (ap [.a 7 (.mv (.t 6)), .g (some 8) (.off 5 (.t 1)) 7 false] (ap [.g (some 9) (.load1 (.t 8)) 7 false, .g (some 10) (.slen (.t 9)) 7
 false, .g (some 11) (.bin .eql (.t 10) (kI 0)) 7 false] [.a 12 (.pick (.t 7) kT (.t 11)), .a 3 (.mv (.t 12))])))) (.cond (.t 3) (.seq (.ops [.a 2 (.mv
 (kI 0))]) .ret) (.seq (.ops (ap [.a 14 (.off 4 (.t 1)), .a 15 (.load1 (.t 14)), .a 16 (.mv (.t 15)), .g (some 17) (.call (kC 13) [(.t 1), (kI 1)]) 16
 true] (ap [.g (some 18) (.bin .eql (.t 17) (kI 0)) 16 true] [.a 19 (.pick (.t 16) (.t 18) kF), .a 13 (.mv (.t 19))]))) (.cond (.t 13) (.seq (.ops [.a 2
 (.mv (kI 11))]) .ret) (.seq (.ops (ap [.a 21 (.call (kC 13) [(.t 1), (kI 3)])] (ap [.a 22 (.bin .gtr (.t 21) (kI 0))] [.a 20 (.mv (.t 22))]))) (.cond
 (.t 20) (.seq (.ops [.a 2 (.mv (kI 10))]) .ret) (.seq (.drw [.a 24 (.call (kC 13) [(.t 1), (kI 2)]), .a 25 (.off 6 (.t 1)), .a 26 (.load1 (.t 25)), .a
 27 (.slen (.t 26)), .a 28 (.bin .eql (.t 24) (.t 27)), .a 23 (.mv (.t 28))] [0, 0, 2, 6, 15, 31]) (.cond (.t 23) (.seq (.ops [.a 2 (.mv (kI 9))]) .ret)
 .skip))))))))) (.seq (.ops [.a 2 (.mv (kI 0))]) .ret)))
theorem fn_st_Ending : Fn Try.prog 8 29 [.t 2] s_st_Ending := .of Try.func8 (by kernel_rfl)

/-- cutover.state.Has -/
def s_st_Has : SCode :=
  (.seq (.ops [.a 2 (.box 28 (.t 0)), .a 3 (.box 9 (.t 1)), .a 4 (.mv kF)]) (.seq (.ops (ap [.a 5 (.off 8 (.t 2)), .a 6 (.load1 (.t 5)), .a 7 (.fn 55
 [(.t 3)]), .a 8 (.call (kC 54) [(.t 6), (.t 7)])] [.a 4 (.mv (.t 8))])) .ret))
theorem fn_st_Has : Fn Try.prog 49 9 [.t 4] s_st_Has := .of Try.func49 (by kernel_rfl)

/-- cutover.state.Has$1 -/
def s_st_Has1 : SCode :=
  (.seq (.ops [.a 2 (.box 58 (.t 0)), .a 3 (.mv kF)]) (.seq (.ops (ap [.a 4 (.off 0 (.t 2)), .a 5 (.load1 (.t 4)), .a 6 (.load1 (.t 1)), .a 7 (.bin .eql
 (.t 5) (.t 6))] [.a 3 (.mv (.t 7))])) .ret))
theorem fn_st_Has1 : Fn Try.prog 55 8 [.t 3] s_st_Has1 := .of Try.func55 (by kernel_rfl)

/-- slices.ContainsFunc[[]cutover.state.Signal,cutover.state.Signal] -/
def s_sg_ContainsFunc : SCode :=
  (.seq (.ops [.a 4 (.mv kF)]) (.seq (.ops (ap [.a 5 (.mv (.t 0)), .a 6 (.mv (.t 1)), .a 7 (.call (kC 56) [(.t 5), (.t 6)])] (ap [.a 8 (.bin .geq (.t 7)
 (kI 0))] [.a 4 (.mv (.t 8))]))) .ret))
theorem fn_sg_ContainsFunc : Fn Try.prog 54 9 [.t 4] s_sg_ContainsFunc := .of Try.func54 (by kernel_rfl)

/-- slices.IndexFunc[[]cutover.state.Signal,cutover.state.Signal] -/
def s_sg_IndexFunc : SCode :=
  (.seq (.ops [.a 4 (.mv (kI 0))]) (.seq (.seq (.ops [.a 6 (.mv (.t 0)), .a 7 (.slen (.t 6)), .a 8 (.mv (kI 0))]) (.block 0 (.loop (.seq (.ops [.a 9
 (.bin .lss (.t 8) (.t 7))]) (.seq (.cond (.t 9) .skip (.exit 0)) (.seq (.block 1 (.seq (.ops [.a 10 (.mv (.t 8)), .a 5 (.mv (.t 10))]) (.seq (.ops [.a
 11 (.mv (.t 1)), .a 12 (.mv (.t 0)), .a 13 (.mv (.t 5)), .a 14 (.idx 3 (.t 12) (.t 13)), .a 15 (.loadA 3 (.t 14)), .a 16 (.call (.t 11) [(.t 15)])])
 (.cond (.t 16) (.seq (.ops [.a 17 (.mv (.t 5)), .a 4 (.mv (.t 17))]) .ret) .skip)))) (.ops [.a 18 (.bin .add (.t 8) (kI 1)), .a 8 (.mv (.t 18))])))))))
 (.seq (.ops [.a 4 (.mv (kI (-1)))]) .ret)))
theorem fn_sg_IndexFunc : Fn Try.prog 56 19 [.t 4] s_sg_IndexFunc := .of Try.func56 (by kernel_rfl)

end Go.Proofs.Ytgbbpelfpagdoaa.Mir

/- Functions of the program, told without it. -/
namespace Go.Proofs.Ytgbbpelfpagdoaa.Mir
open Go Go.RowKit

/-- slices.Clone[[]byte,byte] -/
def s_byte_Clone : SCode :=
  (.seq (.ops [.a 2 (.mv kN)]) (.seq (.seq (.ops [.a 3 (.mv (.t 0)), .a 4 (.nilq true 0 (.t 3) kN)]) (.cond (.t 4) (.seq (.ops [.a 2 (.mv kN)]) .ret)
 .skip)) (.seq (.ops (ap [.a 5 (.bsl 5 1 0 [] []), .a 6 (.mv (.t 0)), .a 7 (.app 5 1 1 (.t 5) (.t 6))] [.a 2 (.mv (.t 7))])) .ret)))
theorem fn_byte_Clone : Fn Try.prog 18 8 [.t 2] s_byte_Clone := .of Try.func18 (by kernel_rfl)

end Go.Proofs.Ytgbbpelfpagdoaa.Mir

/- A run's state, as the program holds it: its parts, and copies. -/
namespace Go.Proofs.Ytgbbpelfpagdoaa.Mir
open Go Go.RowKit
set_option linter.unusedVariables false
set_option linter.unusedSimpArgs false
set_option maxHeartbeats 4000000

structure Nn where
  st : Int
  tr : Int
  due : Int
  data : Bs
  deriving Inhabited, DecidableEq
def Nn.cs (x : Nn) : List F := [iF x.st, iF x.tr, iF x.due, fY x.data]
structure Tm where
  name : Bs
  due : Int
  fired : Bool
  deriving Inhabited, DecidableEq
def Tm.cs (x : Tm) : List F := [.v (.string (BB x.name)), iF x.due, bF x.fired]
structure Sg where
  name : Bs
  id : Int
  data : Bs
  deriving Inhabited, DecidableEq
def Sg.cs (x : Sg) : List F := [.v (.string (BB x.name)), iF x.id, fY x.data]
def fNn (l : List Nn) : F := .s (l.flatMap Nn.cs) l.length
def fTm (l : List Tm) : F := .s (l.flatMap Tm.cs) l.length
def fSg (l : List Sg) : F := .s (l.flatMap Sg.cs) l.length
structure S12 where
  id : Int
  ver : Int
  time : Int
  closed : Int
  cancel : Bool
  defs : List Nd
  nodes : List Nn
  tms : List Tm
  sgs : List Sg
  deriving Inhabited, DecidableEq
theorem cs_Nn (x : Nn) : x.cs.length = 4 := rfl
theorem slcS_fNn {g : List Nn} : slcS (.f (fNn g)) = some g.length := id rfl
theorem idxS_fNn {g : List Nn} {sz : Nat} {k : IntKind} {i : Int} {K : D → Prop} : idxS sz (.f (fNn g)) (.f (.v (.int k i))) K = ((0 ≤ i ∧ i < g.length) ∧ K (.rf ((g.flatMap Nn.cs).drop (i.toNat * sz)))) := id rfl
theorem elemsS_fNn {H : List Row} {g : List Nn} {sz : Nat} : elemsS H sz (.f (fNn g)) = some (g.length, g.flatMap Nn.cs) := id rfl
theorem nilq_fNn {k : Nat} {g : List Nn} {K : Bool → Prop} : nilqS k (.f (fNn g)) (.f (.v (.slice none 0 0))) K = (k = 0 ∧ Nz g.length (K true) (K false)) := id rfl
theorem len_fNn {g : List Nn} : (g.flatMap Nn.cs).length = g.length * 4 := flat_len' cs_Nn g
theorem load_fNn {H : List Row} {g : List Nn} {k : Nat} (hk : k < g.length) : loadA H 4 (.rf ((g.flatMap Nn.cs).drop (k * 4))) = some (.ag ((Nn.cs (gt g k)).map .f)) := flat_loadA cs_Nn hk
theorem at0_fNn {g : List Nn} {k : Nat} (hk : k < g.length) : (g.flatMap Nn.cs)[k * 4]? = (Nn.cs (gt g k))[0]? := flat_at (j := 0) cs_Nn hk (by omega)
theorem at1_fNn {g : List Nn} {k : Nat} (hk : k < g.length) : (g.flatMap Nn.cs)[k * 4 + 1]? = (Nn.cs (gt g k))[1]? := flat_at (j := 1) cs_Nn hk (by omega)
theorem at2_fNn {g : List Nn} {k : Nat} (hk : k < g.length) : (g.flatMap Nn.cs)[k * 4 + 2]? = (Nn.cs (gt g k))[2]? := flat_at (j := 2) cs_Nn hk (by omega)
theorem at3_fNn {g : List Nn} {k : Nat} (hk : k < g.length) : (g.flatMap Nn.cs)[k * 4 + 3]? = (Nn.cs (gt g k))[3]? := flat_at (j := 3) cs_Nn hk (by omega)
theorem cs_Tm (x : Tm) : x.cs.length = 3 := rfl
theorem slcS_fTm {g : List Tm} : slcS (.f (fTm g)) = some g.length := id rfl
theorem idxS_fTm {g : List Tm} {sz : Nat} {k : IntKind} {i : Int} {K : D → Prop} : idxS sz (.f (fTm g)) (.f (.v (.int k i))) K = ((0 ≤ i ∧ i < g.length) ∧ K (.rf ((g.flatMap Tm.cs).drop (i.toNat * sz)))) := id rfl
theorem elemsS_fTm {H : List Row} {g : List Tm} {sz : Nat} : elemsS H sz (.f (fTm g)) = some (g.length, g.flatMap Tm.cs) := id rfl
theorem nilq_fTm {k : Nat} {g : List Tm} {K : Bool → Prop} : nilqS k (.f (fTm g)) (.f (.v (.slice none 0 0))) K = (k = 0 ∧ Nz g.length (K true) (K false)) := id rfl
theorem len_fTm {g : List Tm} : (g.flatMap Tm.cs).length = g.length * 3 := flat_len' cs_Tm g
theorem load_fTm {H : List Row} {g : List Tm} {k : Nat} (hk : k < g.length) : loadA H 3 (.rf ((g.flatMap Tm.cs).drop (k * 3))) = some (.ag ((Tm.cs (gt g k)).map .f)) := flat_loadA cs_Tm hk
theorem at0_fTm {g : List Tm} {k : Nat} (hk : k < g.length) : (g.flatMap Tm.cs)[k * 3]? = (Tm.cs (gt g k))[0]? := flat_at (j := 0) cs_Tm hk (by omega)
theorem at1_fTm {g : List Tm} {k : Nat} (hk : k < g.length) : (g.flatMap Tm.cs)[k * 3 + 1]? = (Tm.cs (gt g k))[1]? := flat_at (j := 1) cs_Tm hk (by omega)
theorem at2_fTm {g : List Tm} {k : Nat} (hk : k < g.length) : (g.flatMap Tm.cs)[k * 3 + 2]? = (Tm.cs (gt g k))[2]? := flat_at (j := 2) cs_Tm hk (by omega)
theorem cs_Sg (x : Sg) : x.cs.length = 3 := rfl
theorem slcS_fSg {g : List Sg} : slcS (.f (fSg g)) = some g.length := id rfl
theorem idxS_fSg {g : List Sg} {sz : Nat} {k : IntKind} {i : Int} {K : D → Prop} : idxS sz (.f (fSg g)) (.f (.v (.int k i))) K = ((0 ≤ i ∧ i < g.length) ∧ K (.rf ((g.flatMap Sg.cs).drop (i.toNat * sz)))) := id rfl
theorem elemsS_fSg {H : List Row} {g : List Sg} {sz : Nat} : elemsS H sz (.f (fSg g)) = some (g.length, g.flatMap Sg.cs) := id rfl
theorem nilq_fSg {k : Nat} {g : List Sg} {K : Bool → Prop} : nilqS k (.f (fSg g)) (.f (.v (.slice none 0 0))) K = (k = 0 ∧ Nz g.length (K true) (K false)) := id rfl
theorem len_fSg {g : List Sg} : (g.flatMap Sg.cs).length = g.length * 3 := flat_len' cs_Sg g
theorem load_fSg {H : List Row} {g : List Sg} {k : Nat} (hk : k < g.length) : loadA H 3 (.rf ((g.flatMap Sg.cs).drop (k * 3))) = some (.ag ((Sg.cs (gt g k)).map .f)) := flat_loadA cs_Sg hk
theorem at0_fSg {g : List Sg} {k : Nat} (hk : k < g.length) : (g.flatMap Sg.cs)[k * 3]? = (Sg.cs (gt g k))[0]? := flat_at (j := 0) cs_Sg hk (by omega)
theorem at1_fSg {g : List Sg} {k : Nat} (hk : k < g.length) : (g.flatMap Sg.cs)[k * 3 + 1]? = (Sg.cs (gt g k))[1]? := flat_at (j := 1) cs_Sg hk (by omega)
theorem at2_fSg {g : List Sg} {k : Nat} (hk : k < g.length) : (g.flatMap Sg.cs)[k * 3 + 2]? = (Sg.cs (gt g k))[2]? := flat_at (j := 2) cs_Sg hk (by omega)
theorem len_fG {g : List Nd} : (g.flatMap Nd.cs).length = g.length * 3 := flat_len' Nd.cs_len g
theorem LSt : (((type_of% @slcS_fNn ∧ (type_of% @idxS_fNn ∧ type_of% @elemsS_fNn)) ∧ (type_of% @nilq_fNn ∧ (type_of% @slcS_fTm ∧ type_of% @idxS_fTm))) ∧ ((type_of% @elemsS_fTm ∧ (type_of% @nilq_fTm ∧ type_of% @slcS_fSg)) ∧ (type_of% @idxS_fSg ∧ (type_of% @elemsS_fSg ∧ type_of% @nilq_fSg)))) :=
  ⟨⟨⟨@slcS_fNn, ⟨@idxS_fNn, @elemsS_fNn⟩⟩, ⟨@nilq_fNn, ⟨@slcS_fTm, @idxS_fTm⟩⟩⟩, ⟨⟨@elemsS_fTm, ⟨@nilq_fTm, @slcS_fSg⟩⟩, ⟨@idxS_fSg, ⟨@elemsS_fSg, @nilq_fSg⟩⟩⟩⟩
theorem c_byte_CloneF (l : Bs) (hl : l.length ≤ 1000000) : Con Try.prog 18 [.f (fY l)] [] fun r H' => r = .f (fY l) ∧ H' = [] := by
  refine Con.walk good fn_byte_Clone (by simp) ?_
  unfold s_byte_Clone
  simp only [argsE]
  repeat' (first | (with_reducible first | refine Wa.h ?_ | refine Ws.h ?_ | refine Wr.h ?_ | refine Wb.h fun K hK => ?_ | (refine hK _ ?_; clear hK K)) | ((with_reducible refine kQ ?_ ?_); kernel_rfl) | ((with_reducible refine k1 ?_ ?_); rfl) | ((with_reducible refine k0 ?_ ?_); rfl) | ((with_reducible apply kB) <;> first | rfl | intro h) | ((with_reducible refine kM ?_ ?_); rfl) | ((with_reducible refine wuT ?_ ?_); · assumption) | ((with_reducible refine wuF ?_ ?_); · assumption) | ((with_reducible refine wtT ?_ ?_); · assumption) | ((with_reducible refine wtF ?_ ?_); · assumption) | (with_reducible refine Wt.h (fun h => ?_) (fun h => ?_)) <;> try (exfalso; omega) | (with_reducible refine Wu.h (fun h => ?_) (fun h => ?_)) <;> try simp only [h] | (with_reducible refine Wn.h (fun h => ?_) ?_) <;> try (exfalso; omega) | ((fail_if_success with_reducible refine Wz.h ?_); simp (disch := omega) only [↓LD, LU, LS, LT, loadA_rf, seval, LSt, List.length_map]) | ((with_reducible refine And.intro ?_ ?_); omega) | ((fail_if_success with_reducible refine Wz.h ?_); simp only [D.int, D.bool]))
  · obtain rfl := List.eq_nil_of_length_eq_zero h
    exact end1 rfl rfl (by kernel_rfl) .nil ⟨rfl, rfl⟩
  · obtain rfl := List.eq_nil_of_length_eq_zero h
    exact end1 rfl rfl (by kernel_rfl) (.sl (T := 5) (xs := []) rfl (fun _ => rfl)) ⟨rfl, rfl⟩
  · exact end1 rfl rfl (by kernel_rfl) (.sl (T := 5) (xs := l.map uF) rfl (fun e => absurd e h)) ⟨rfl, rfl⟩
instance {l : Bs} {H : List Row} {K : D → List Row → Prop} : Wa (callW Try.prog (.fn 18 []) [.f (fY l)] H K) (l.length ≤ 1000000 ∧ K (.f (fY l)) H) := ⟨fun h => callW_pure (c_byte_CloneF l h.1) rfl rfl rfl h.2⟩
instance {l : Bs} {H : List Row} {K : Bool → D → List Row → Prop} : Wa (callDr Try.prog (.fn 18 []) [.f (fY l)] H K) (l.length ≤ 1000000 ∧ K true (.f (fY l)) H) := ⟨fun h => callDr_pure (c_byte_CloneF l h.1) rfl rfl rfl h.2⟩
theorem c_int_CloneF (l : List Int) (hl : l.length ≤ 1000000) : Con Try.prog 24 [.f (fI l)] [] fun r H' => r = .f (fI l) ∧ H' = [] := by
  refine Con.walk good fn_int_Clone (by simp) ?_
  unfold s_int_Clone
  simp only [argsE]
  repeat' (first | (with_reducible first | refine Wa.h ?_ | refine Ws.h ?_ | refine Wr.h ?_ | refine Wb.h fun K hK => ?_ | (refine hK _ ?_; clear hK K)) | ((with_reducible refine kQ ?_ ?_); kernel_rfl) | ((with_reducible refine k1 ?_ ?_); rfl) | ((with_reducible refine k0 ?_ ?_); rfl) | ((with_reducible apply kB) <;> first | rfl | intro h) | ((with_reducible refine kM ?_ ?_); rfl) | ((with_reducible refine wuT ?_ ?_); · assumption) | ((with_reducible refine wuF ?_ ?_); · assumption) | ((with_reducible refine wtT ?_ ?_); · assumption) | ((with_reducible refine wtF ?_ ?_); · assumption) | (with_reducible refine Wt.h (fun h => ?_) (fun h => ?_)) <;> try (exfalso; omega) | (with_reducible refine Wu.h (fun h => ?_) (fun h => ?_)) <;> try simp only [h] | (with_reducible refine Wn.h (fun h => ?_) ?_) <;> try (exfalso; omega) | ((fail_if_success with_reducible refine Wz.h ?_); simp (disch := omega) only [↓LD, LU, LS, LT, loadA_rf, seval, LSt, List.length_map]) | ((with_reducible refine And.intro ?_ ?_); omega) | ((fail_if_success with_reducible refine Wz.h ?_); simp only [D.int, D.bool]))
  · obtain rfl := List.eq_nil_of_length_eq_zero h
    exact end1 rfl rfl (by kernel_rfl) .nil ⟨rfl, rfl⟩
  · obtain rfl := List.eq_nil_of_length_eq_zero h
    exact end1 rfl rfl (by kernel_rfl) (.sl (T := 3) (xs := []) rfl (fun _ => rfl)) ⟨rfl, rfl⟩
  · exact end1 rfl rfl (by kernel_rfl) (.sl (T := 3) (xs := l.map iF) rfl (fun e => absurd e h)) ⟨rfl, rfl⟩
instance {l : List Int} {H : List Row} {K : D → List Row → Prop} : Wa (callW Try.prog (.fn 24 []) [.f (fI l)] H K) (l.length ≤ 1000000 ∧ K (.f (fI l)) H) := ⟨fun h => callW_pure (c_int_CloneF l h.1) rfl rfl rfl h.2⟩
instance {l : List Int} {H : List Row} {K : Bool → D → List Row → Prop} : Wa (callDr Try.prog (.fn 24 []) [.f (fI l)] H K) (l.length ≤ 1000000 ∧ K true (.f (fI l)) H) := ⟨fun h => callDr_pure (c_int_CloneF l h.1) rfl rfl rfl h.2⟩
theorem c_def_CloneU (l : List Nd) (hl : l.length ≤ 1000000) : Con Try.prog 23 [.f (fG l)] [] fun r H' => r = .sl 0 0 l.length ∧ H' = [.data 34 (l.flatMap Nd.cs)] := by
  refine Con.walk good fn_def_Clone (by simp) ?_
  unfold s_def_Clone
  simp only [argsE]
  repeat' (first | (with_reducible first | refine Wa.h ?_ | refine Ws.h ?_ | refine Wb.h fun K hK => ?_ | (refine hK _ ?_; clear hK K)) | ((with_reducible refine kQ ?_ ?_); kernel_rfl) | ((with_reducible refine k1 ?_ ?_); rfl) | ((with_reducible refine k0 ?_ ?_); rfl) | ((with_reducible apply kB) <;> first | rfl | intro h) | ((with_reducible refine kM ?_ ?_); rfl) | ((with_reducible refine wuT ?_ ?_); · assumption) | ((with_reducible refine wuF ?_ ?_); · assumption) | ((with_reducible refine wtT ?_ ?_); · assumption) | ((with_reducible refine wtF ?_ ?_); · assumption) | (with_reducible refine Wt.h (fun h => ?_) (fun h => ?_)) <;> try (exfalso; omega) | (with_reducible refine Wu.h (fun h => ?_) (fun h => ?_)) <;> try simp only [h] | (with_reducible refine Wn.h (fun h => ?_) ?_) <;> try (exfalso; omega) | ((fail_if_success with_reducible refine Wz.h ?_); simp (disch := omega) only [↓LD, LU, LS, LT, loadA_rf, seval, LSt, len_fG]) | ((with_reducible refine And.intro ?_ ?_); omega) | ((fail_if_success with_reducible refine Wz.h ?_); simp only [D.int, D.bool]))
  · obtain rfl := List.eq_nil_of_length_eq_zero h
    refine HS.view ((View.void 34).trans (View.slot 2 (.sl 0 0 0) (.no (by simp)))) ?_
    repeat' (first | (with_reducible first | refine Wa.h ?_ | refine Ws.h ?_ | refine Wr.h ?_ | refine Wb.h fun K hK => ?_ | (refine hK _ ?_; clear hK K)) | ((with_reducible refine kQ ?_ ?_); kernel_rfl) | ((with_reducible refine k1 ?_ ?_); rfl) | ((with_reducible refine k0 ?_ ?_); rfl) | ((with_reducible apply kB) <;> first | rfl | intro h) | ((with_reducible refine kM ?_ ?_); rfl) | ((with_reducible refine wuT ?_ ?_); · assumption) | ((with_reducible refine wuF ?_ ?_); · assumption) | ((with_reducible refine wtT ?_ ?_); · assumption) | ((with_reducible refine wtF ?_ ?_); · assumption) | (with_reducible refine Wt.h (fun h => ?_) (fun h => ?_)) <;> try (exfalso; omega) | (with_reducible refine Wu.h (fun h => ?_) (fun h => ?_)) <;> try simp only [h] | (with_reducible refine Wn.h (fun h => ?_) ?_) <;> try (exfalso; omega) | ((fail_if_success with_reducible refine Wz.h ?_); simp (disch := omega) only [↓LD, LU, LS, LT, loadA_rf, seval]) | ((with_reducible refine And.intro ?_ ?_); omega) | ((fail_if_success with_reducible refine Wz.h ?_); simp only [D.int, D.bool]))
    exact endA rfl rfl ⟨rfl, rfl⟩
  · obtain rfl := List.eq_nil_of_length_eq_zero h
    repeat' (first | (with_reducible first | refine Wa.h ?_ | refine Ws.h ?_ | refine Wr.h ?_ | refine Wb.h fun K hK => ?_ | (refine hK _ ?_; clear hK K)) | ((with_reducible refine kQ ?_ ?_); kernel_rfl) | ((with_reducible refine k1 ?_ ?_); rfl) | ((with_reducible refine k0 ?_ ?_); rfl) | ((with_reducible apply kB) <;> first | rfl | intro h) | ((with_reducible refine kM ?_ ?_); rfl) | ((with_reducible refine wuT ?_ ?_); · assumption) | ((with_reducible refine wuF ?_ ?_); · assumption) | ((with_reducible refine wtT ?_ ?_); · assumption) | ((with_reducible refine wtF ?_ ?_); · assumption) | (with_reducible refine Wt.h (fun h => ?_) (fun h => ?_)) <;> try (exfalso; omega) | (with_reducible refine Wu.h (fun h => ?_) (fun h => ?_)) <;> try simp only [h] | (with_reducible refine Wn.h (fun h => ?_) ?_) <;> try (exfalso; omega) | ((fail_if_success with_reducible refine Wz.h ?_); simp (disch := omega) only [↓LD, LU, LS, LT, loadA_rf, seval]) | ((with_reducible refine And.intro ?_ ?_); omega) | ((fail_if_success with_reducible refine Wz.h ?_); simp only [D.int, D.bool]))
    exact endA rfl rfl ⟨rfl, rfl⟩
  · repeat' (first | (with_reducible first | refine Wa.h ?_ | refine Ws.h ?_ | refine Wr.h ?_ | refine Wb.h fun K hK => ?_ | (refine hK _ ?_; clear hK K)) | ((with_reducible refine kQ ?_ ?_); kernel_rfl) | ((with_reducible refine k1 ?_ ?_); rfl) | ((with_reducible refine k0 ?_ ?_); rfl) | ((with_reducible apply kB) <;> first | rfl | intro h) | ((with_reducible refine kM ?_ ?_); rfl) | ((with_reducible refine wuT ?_ ?_); · assumption) | ((with_reducible refine wuF ?_ ?_); · assumption) | ((with_reducible refine wtT ?_ ?_); · assumption) | ((with_reducible refine wtF ?_ ?_); · assumption) | (with_reducible refine Wt.h (fun h => ?_) (fun h => ?_)) <;> try (exfalso; omega) | (with_reducible refine Wu.h (fun h => ?_) (fun h => ?_)) <;> try simp only [h] | (with_reducible refine Wn.h (fun h => ?_) ?_) <;> try (exfalso; omega) | ((fail_if_success with_reducible refine Wz.h ?_); simp (disch := omega) only [↓LD, LU, LS, LT, loadA_rf, seval]) | ((with_reducible refine And.intro ?_ ?_); omega) | ((fail_if_success with_reducible refine Wz.h ?_); simp only [D.int, D.bool]))
    exact endG rfl rfl (ef := ⟨.sl 0 0 l.length, [], [.data 34 (l.flatMap Nd.cs)]⟩) (by kernel_rfl) ⟨rfl, rfl⟩
instance {l : List Nd} {H : List Row} {K : D → List Row → Prop} : Wa (callW Try.prog (.fn 23 []) [.f (fG l)] H K) (l.length ≤ 1000000 ∧ K (.sl H.length 0 l.length) (H ++ [.data 34 (l.flatMap Nd.cs)])) := ⟨fun h => callW_new (c_def_CloneU l h.1) rfl rfl (fun _ => rfl) h.2⟩
instance {l : List Nd} {H : List Row} {K : Bool → D → List Row → Prop} : Wa (callDr Try.prog (.fn 23 []) [.f (fG l)] H K) (l.length ≤ 1000000 ∧ K true (.sl H.length 0 l.length) (H ++ [.data 34 (l.flatMap Nd.cs)])) := ⟨fun h => callDr_new (c_def_CloneU l h.1) rfl rfl (fun _ => rfl) h.2⟩
theorem c_nd_CloneU (l : List Nn) (hl : l.length ≤ 1000000) : Con Try.prog 15 [.f (fNn l)] [] fun r H' => r = .sl 0 0 l.length ∧ H' = [.data 39 (l.flatMap Nn.cs)] := by
  refine Con.walk good fn_nd_Clone (by simp) ?_
  unfold s_nd_Clone
  simp only [argsE]
  repeat' (first | (with_reducible first | refine Wa.h ?_ | refine Ws.h ?_ | refine Wb.h fun K hK => ?_ | (refine hK _ ?_; clear hK K)) | ((with_reducible refine kQ ?_ ?_); kernel_rfl) | ((with_reducible refine k1 ?_ ?_); rfl) | ((with_reducible refine k0 ?_ ?_); rfl) | ((with_reducible apply kB) <;> first | rfl | intro h) | ((with_reducible refine kM ?_ ?_); rfl) | ((with_reducible refine wuT ?_ ?_); · assumption) | ((with_reducible refine wuF ?_ ?_); · assumption) | ((with_reducible refine wtT ?_ ?_); · assumption) | ((with_reducible refine wtF ?_ ?_); · assumption) | (with_reducible refine Wt.h (fun h => ?_) (fun h => ?_)) <;> try (exfalso; omega) | (with_reducible refine Wu.h (fun h => ?_) (fun h => ?_)) <;> try simp only [h] | (with_reducible refine Wn.h (fun h => ?_) ?_) <;> try (exfalso; omega) | ((fail_if_success with_reducible refine Wz.h ?_); simp (disch := omega) only [↓LD, LU, LS, LT, loadA_rf, seval, LSt, len_fNn]) | ((with_reducible refine And.intro ?_ ?_); omega) | ((fail_if_success with_reducible refine Wz.h ?_); simp only [D.int, D.bool]))
  · obtain rfl := List.eq_nil_of_length_eq_zero h
    refine HS.view ((View.void 39).trans (View.slot 2 (.sl 0 0 0) (.no (by simp)))) ?_
    repeat' (first | (with_reducible first | refine Wa.h ?_ | refine Ws.h ?_ | refine Wr.h ?_ | refine Wb.h fun K hK => ?_ | (refine hK _ ?_; clear hK K)) | ((with_reducible refine kQ ?_ ?_); kernel_rfl) | ((with_reducible refine k1 ?_ ?_); rfl) | ((with_reducible refine k0 ?_ ?_); rfl) | ((with_reducible apply kB) <;> first | rfl | intro h) | ((with_reducible refine kM ?_ ?_); rfl) | ((with_reducible refine wuT ?_ ?_); · assumption) | ((with_reducible refine wuF ?_ ?_); · assumption) | ((with_reducible refine wtT ?_ ?_); · assumption) | ((with_reducible refine wtF ?_ ?_); · assumption) | (with_reducible refine Wt.h (fun h => ?_) (fun h => ?_)) <;> try (exfalso; omega) | (with_reducible refine Wu.h (fun h => ?_) (fun h => ?_)) <;> try simp only [h] | (with_reducible refine Wn.h (fun h => ?_) ?_) <;> try (exfalso; omega) | ((fail_if_success with_reducible refine Wz.h ?_); simp (disch := omega) only [↓LD, LU, LS, LT, loadA_rf, seval]) | ((with_reducible refine And.intro ?_ ?_); omega) | ((fail_if_success with_reducible refine Wz.h ?_); simp only [D.int, D.bool]))
    exact endA rfl rfl ⟨rfl, rfl⟩
  · obtain rfl := List.eq_nil_of_length_eq_zero h
    repeat' (first | (with_reducible first | refine Wa.h ?_ | refine Ws.h ?_ | refine Wr.h ?_ | refine Wb.h fun K hK => ?_ | (refine hK _ ?_; clear hK K)) | ((with_reducible refine kQ ?_ ?_); kernel_rfl) | ((with_reducible refine k1 ?_ ?_); rfl) | ((with_reducible refine k0 ?_ ?_); rfl) | ((with_reducible apply kB) <;> first | rfl | intro h) | ((with_reducible refine kM ?_ ?_); rfl) | ((with_reducible refine wuT ?_ ?_); · assumption) | ((with_reducible refine wuF ?_ ?_); · assumption) | ((with_reducible refine wtT ?_ ?_); · assumption) | ((with_reducible refine wtF ?_ ?_); · assumption) | (with_reducible refine Wt.h (fun h => ?_) (fun h => ?_)) <;> try (exfalso; omega) | (with_reducible refine Wu.h (fun h => ?_) (fun h => ?_)) <;> try simp only [h] | (with_reducible refine Wn.h (fun h => ?_) ?_) <;> try (exfalso; omega) | ((fail_if_success with_reducible refine Wz.h ?_); simp (disch := omega) only [↓LD, LU, LS, LT, loadA_rf, seval]) | ((with_reducible refine And.intro ?_ ?_); omega) | ((fail_if_success with_reducible refine Wz.h ?_); simp only [D.int, D.bool]))
    exact endA rfl rfl ⟨rfl, rfl⟩
  · repeat' (first | (with_reducible first | refine Wa.h ?_ | refine Ws.h ?_ | refine Wr.h ?_ | refine Wb.h fun K hK => ?_ | (refine hK _ ?_; clear hK K)) | ((with_reducible refine kQ ?_ ?_); kernel_rfl) | ((with_reducible refine k1 ?_ ?_); rfl) | ((with_reducible refine k0 ?_ ?_); rfl) | ((with_reducible apply kB) <;> first | rfl | intro h) | ((with_reducible refine kM ?_ ?_); rfl) | ((with_reducible refine wuT ?_ ?_); · assumption) | ((with_reducible refine wuF ?_ ?_); · assumption) | ((with_reducible refine wtT ?_ ?_); · assumption) | ((with_reducible refine wtF ?_ ?_); · assumption) | (with_reducible refine Wt.h (fun h => ?_) (fun h => ?_)) <;> try (exfalso; omega) | (with_reducible refine Wu.h (fun h => ?_) (fun h => ?_)) <;> try simp only [h] | (with_reducible refine Wn.h (fun h => ?_) ?_) <;> try (exfalso; omega) | ((fail_if_success with_reducible refine Wz.h ?_); simp (disch := omega) only [↓LD, LU, LS, LT, loadA_rf, seval]) | ((with_reducible refine And.intro ?_ ?_); omega) | ((fail_if_success with_reducible refine Wz.h ?_); simp only [D.int, D.bool]))
    exact endG rfl rfl (ef := ⟨.sl 0 0 l.length, [], [.data 39 (l.flatMap Nn.cs)]⟩) (by kernel_rfl) ⟨rfl, rfl⟩
instance {l : List Nn} {H : List Row} {K : D → List Row → Prop} : Wa (callW Try.prog (.fn 15 []) [.f (fNn l)] H K) (l.length ≤ 1000000 ∧ K (.sl H.length 0 l.length) (H ++ [.data 39 (l.flatMap Nn.cs)])) := ⟨fun h => callW_new (c_nd_CloneU l h.1) rfl rfl (fun _ => rfl) h.2⟩
instance {l : List Nn} {H : List Row} {K : Bool → D → List Row → Prop} : Wa (callDr Try.prog (.fn 15 []) [.f (fNn l)] H K) (l.length ≤ 1000000 ∧ K true (.sl H.length 0 l.length) (H ++ [.data 39 (l.flatMap Nn.cs)])) := ⟨fun h => callDr_new (c_nd_CloneU l h.1) rfl rfl (fun _ => rfl) h.2⟩
theorem c_tm_CloneU (l : List Tm) (hl : l.length ≤ 1000000) : Con Try.prog 16 [.f (fTm l)] [] fun r H' => r = .sl 0 0 l.length ∧ H' = [.data 55 (l.flatMap Tm.cs)] := by
  refine Con.walk good fn_tm_Clone (by simp) ?_
  unfold s_tm_Clone
  simp only [argsE]
  repeat' (first | (with_reducible first | refine Wa.h ?_ | refine Ws.h ?_ | refine Wb.h fun K hK => ?_ | (refine hK _ ?_; clear hK K)) | ((with_reducible refine kQ ?_ ?_); kernel_rfl) | ((with_reducible refine k1 ?_ ?_); rfl) | ((with_reducible refine k0 ?_ ?_); rfl) | ((with_reducible apply kB) <;> first | rfl | intro h) | ((with_reducible refine kM ?_ ?_); rfl) | ((with_reducible refine wuT ?_ ?_); · assumption) | ((with_reducible refine wuF ?_ ?_); · assumption) | ((with_reducible refine wtT ?_ ?_); · assumption) | ((with_reducible refine wtF ?_ ?_); · assumption) | (with_reducible refine Wt.h (fun h => ?_) (fun h => ?_)) <;> try (exfalso; omega) | (with_reducible refine Wu.h (fun h => ?_) (fun h => ?_)) <;> try simp only [h] | (with_reducible refine Wn.h (fun h => ?_) ?_) <;> try (exfalso; omega) | ((fail_if_success with_reducible refine Wz.h ?_); simp (disch := omega) only [↓LD, LU, LS, LT, loadA_rf, seval, LSt, len_fTm]) | ((with_reducible refine And.intro ?_ ?_); omega) | ((fail_if_success with_reducible refine Wz.h ?_); simp only [D.int, D.bool]))
  · obtain rfl := List.eq_nil_of_length_eq_zero h
    refine HS.view ((View.void 55).trans (View.slot 2 (.sl 0 0 0) (.no (by simp)))) ?_
    repeat' (first | (with_reducible first | refine Wa.h ?_ | refine Ws.h ?_ | refine Wr.h ?_ | refine Wb.h fun K hK => ?_ | (refine hK _ ?_; clear hK K)) | ((with_reducible refine kQ ?_ ?_); kernel_rfl) | ((with_reducible refine k1 ?_ ?_); rfl) | ((with_reducible refine k0 ?_ ?_); rfl) | ((with_reducible apply kB) <;> first | rfl | intro h) | ((with_reducible refine kM ?_ ?_); rfl) | ((with_reducible refine wuT ?_ ?_); · assumption) | ((with_reducible refine wuF ?_ ?_); · assumption) | ((with_reducible refine wtT ?_ ?_); · assumption) | ((with_reducible refine wtF ?_ ?_); · assumption) | (with_reducible refine Wt.h (fun h => ?_) (fun h => ?_)) <;> try (exfalso; omega) | (with_reducible refine Wu.h (fun h => ?_) (fun h => ?_)) <;> try simp only [h] | (with_reducible refine Wn.h (fun h => ?_) ?_) <;> try (exfalso; omega) | ((fail_if_success with_reducible refine Wz.h ?_); simp (disch := omega) only [↓LD, LU, LS, LT, loadA_rf, seval]) | ((with_reducible refine And.intro ?_ ?_); omega) | ((fail_if_success with_reducible refine Wz.h ?_); simp only [D.int, D.bool]))
    exact endA rfl rfl ⟨rfl, rfl⟩
  · obtain rfl := List.eq_nil_of_length_eq_zero h
    repeat' (first | (with_reducible first | refine Wa.h ?_ | refine Ws.h ?_ | refine Wr.h ?_ | refine Wb.h fun K hK => ?_ | (refine hK _ ?_; clear hK K)) | ((with_reducible refine kQ ?_ ?_); kernel_rfl) | ((with_reducible refine k1 ?_ ?_); rfl) | ((with_reducible refine k0 ?_ ?_); rfl) | ((with_reducible apply kB) <;> first | rfl | intro h) | ((with_reducible refine kM ?_ ?_); rfl) | ((with_reducible refine wuT ?_ ?_); · assumption) | ((with_reducible refine wuF ?_ ?_); · assumption) | ((with_reducible refine wtT ?_ ?_); · assumption) | ((with_reducible refine wtF ?_ ?_); · assumption) | (with_reducible refine Wt.h (fun h => ?_) (fun h => ?_)) <;> try (exfalso; omega) | (with_reducible refine Wu.h (fun h => ?_) (fun h => ?_)) <;> try simp only [h] | (with_reducible refine Wn.h (fun h => ?_) ?_) <;> try (exfalso; omega) | ((fail_if_success with_reducible refine Wz.h ?_); simp (disch := omega) only [↓LD, LU, LS, LT, loadA_rf, seval]) | ((with_reducible refine And.intro ?_ ?_); omega) | ((fail_if_success with_reducible refine Wz.h ?_); simp only [D.int, D.bool]))
    exact endA rfl rfl ⟨rfl, rfl⟩
  · repeat' (first | (with_reducible first | refine Wa.h ?_ | refine Ws.h ?_ | refine Wr.h ?_ | refine Wb.h fun K hK => ?_ | (refine hK _ ?_; clear hK K)) | ((with_reducible refine kQ ?_ ?_); kernel_rfl) | ((with_reducible refine k1 ?_ ?_); rfl) | ((with_reducible refine k0 ?_ ?_); rfl) | ((with_reducible apply kB) <;> first | rfl | intro h) | ((with_reducible refine kM ?_ ?_); rfl) | ((with_reducible refine wuT ?_ ?_); · assumption) | ((with_reducible refine wuF ?_ ?_); · assumption) | ((with_reducible refine wtT ?_ ?_); · assumption) | ((with_reducible refine wtF ?_ ?_); · assumption) | (with_reducible refine Wt.h (fun h => ?_) (fun h => ?_)) <;> try (exfalso; omega) | (with_reducible refine Wu.h (fun h => ?_) (fun h => ?_)) <;> try simp only [h] | (with_reducible refine Wn.h (fun h => ?_) ?_) <;> try (exfalso; omega) | ((fail_if_success with_reducible refine Wz.h ?_); simp (disch := omega) only [↓LD, LU, LS, LT, loadA_rf, seval]) | ((with_reducible refine And.intro ?_ ?_); omega) | ((fail_if_success with_reducible refine Wz.h ?_); simp only [D.int, D.bool]))
    exact endG rfl rfl (ef := ⟨.sl 0 0 l.length, [], [.data 55 (l.flatMap Tm.cs)]⟩) (by kernel_rfl) ⟨rfl, rfl⟩
instance {l : List Tm} {H : List Row} {K : D → List Row → Prop} : Wa (callW Try.prog (.fn 16 []) [.f (fTm l)] H K) (l.length ≤ 1000000 ∧ K (.sl H.length 0 l.length) (H ++ [.data 55 (l.flatMap Tm.cs)])) := ⟨fun h => callW_new (c_tm_CloneU l h.1) rfl rfl (fun _ => rfl) h.2⟩
instance {l : List Tm} {H : List Row} {K : Bool → D → List Row → Prop} : Wa (callDr Try.prog (.fn 16 []) [.f (fTm l)] H K) (l.length ≤ 1000000 ∧ K true (.sl H.length 0 l.length) (H ++ [.data 55 (l.flatMap Tm.cs)])) := ⟨fun h => callDr_new (c_tm_CloneU l h.1) rfl rfl (fun _ => rfl) h.2⟩
theorem c_sg_CloneU (l : List Sg) (hl : l.length ≤ 1000000) : Con Try.prog 17 [.f (fSg l)] [] fun r H' => r = .sl 0 0 l.length ∧ H' = [.data 58 (l.flatMap Sg.cs)] := by
  refine Con.walk good fn_sg_Clone (by simp) ?_
  unfold s_sg_Clone
  simp only [argsE]
  repeat' (first | (with_reducible first | refine Wa.h ?_ | refine Ws.h ?_ | refine Wb.h fun K hK => ?_ | (refine hK _ ?_; clear hK K)) | ((with_reducible refine kQ ?_ ?_); kernel_rfl) | ((with_reducible refine k1 ?_ ?_); rfl) | ((with_reducible refine k0 ?_ ?_); rfl) | ((with_reducible apply kB) <;> first | rfl | intro h) | ((with_reducible refine kM ?_ ?_); rfl) | ((with_reducible refine wuT ?_ ?_); · assumption) | ((with_reducible refine wuF ?_ ?_); · assumption) | ((with_reducible refine wtT ?_ ?_); · assumption) | ((with_reducible refine wtF ?_ ?_); · assumption) | (with_reducible refine Wt.h (fun h => ?_) (fun h => ?_)) <;> try (exfalso; omega) | (with_reducible refine Wu.h (fun h => ?_) (fun h => ?_)) <;> try simp only [h] | (with_reducible refine Wn.h (fun h => ?_) ?_) <;> try (exfalso; omega) | ((fail_if_success with_reducible refine Wz.h ?_); simp (disch := omega) only [↓LD, LU, LS, LT, loadA_rf, seval, LSt, len_fSg]) | ((with_reducible refine And.intro ?_ ?_); omega) | ((fail_if_success with_reducible refine Wz.h ?_); simp only [D.int, D.bool]))
  · obtain rfl := List.eq_nil_of_length_eq_zero h
    refine HS.view ((View.void 58).trans (View.slot 2 (.sl 0 0 0) (.no (by simp)))) ?_
    repeat' (first | (with_reducible first | refine Wa.h ?_ | refine Ws.h ?_ | refine Wr.h ?_ | refine Wb.h fun K hK => ?_ | (refine hK _ ?_; clear hK K)) | ((with_reducible refine kQ ?_ ?_); kernel_rfl) | ((with_reducible refine k1 ?_ ?_); rfl) | ((with_reducible refine k0 ?_ ?_); rfl) | ((with_reducible apply kB) <;> first | rfl | intro h) | ((with_reducible refine kM ?_ ?_); rfl) | ((with_reducible refine wuT ?_ ?_); · assumption) | ((with_reducible refine wuF ?_ ?_); · assumption) | ((with_reducible refine wtT ?_ ?_); · assumption) | ((with_reducible refine wtF ?_ ?_); · assumption) | (with_reducible refine Wt.h (fun h => ?_) (fun h => ?_)) <;> try (exfalso; omega) | (with_reducible refine Wu.h (fun h => ?_) (fun h => ?_)) <;> try simp only [h] | (with_reducible refine Wn.h (fun h => ?_) ?_) <;> try (exfalso; omega) | ((fail_if_success with_reducible refine Wz.h ?_); simp (disch := omega) only [↓LD, LU, LS, LT, loadA_rf, seval]) | ((with_reducible refine And.intro ?_ ?_); omega) | ((fail_if_success with_reducible refine Wz.h ?_); simp only [D.int, D.bool]))
    exact endA rfl rfl ⟨rfl, rfl⟩
  · obtain rfl := List.eq_nil_of_length_eq_zero h
    repeat' (first | (with_reducible first | refine Wa.h ?_ | refine Ws.h ?_ | refine Wr.h ?_ | refine Wb.h fun K hK => ?_ | (refine hK _ ?_; clear hK K)) | ((with_reducible refine kQ ?_ ?_); kernel_rfl) | ((with_reducible refine k1 ?_ ?_); rfl) | ((with_reducible refine k0 ?_ ?_); rfl) | ((with_reducible apply kB) <;> first | rfl | intro h) | ((with_reducible refine kM ?_ ?_); rfl) | ((with_reducible refine wuT ?_ ?_); · assumption) | ((with_reducible refine wuF ?_ ?_); · assumption) | ((with_reducible refine wtT ?_ ?_); · assumption) | ((with_reducible refine wtF ?_ ?_); · assumption) | (with_reducible refine Wt.h (fun h => ?_) (fun h => ?_)) <;> try (exfalso; omega) | (with_reducible refine Wu.h (fun h => ?_) (fun h => ?_)) <;> try simp only [h] | (with_reducible refine Wn.h (fun h => ?_) ?_) <;> try (exfalso; omega) | ((fail_if_success with_reducible refine Wz.h ?_); simp (disch := omega) only [↓LD, LU, LS, LT, loadA_rf, seval]) | ((with_reducible refine And.intro ?_ ?_); omega) | ((fail_if_success with_reducible refine Wz.h ?_); simp only [D.int, D.bool]))
    exact endA rfl rfl ⟨rfl, rfl⟩
  · repeat' (first | (with_reducible first | refine Wa.h ?_ | refine Ws.h ?_ | refine Wr.h ?_ | refine Wb.h fun K hK => ?_ | (refine hK _ ?_; clear hK K)) | ((with_reducible refine kQ ?_ ?_); kernel_rfl) | ((with_reducible refine k1 ?_ ?_); rfl) | ((with_reducible refine k0 ?_ ?_); rfl) | ((with_reducible apply kB) <;> first | rfl | intro h) | ((with_reducible refine kM ?_ ?_); rfl) | ((with_reducible refine wuT ?_ ?_); · assumption) | ((with_reducible refine wuF ?_ ?_); · assumption) | ((with_reducible refine wtT ?_ ?_); · assumption) | ((with_reducible refine wtF ?_ ?_); · assumption) | (with_reducible refine Wt.h (fun h => ?_) (fun h => ?_)) <;> try (exfalso; omega) | (with_reducible refine Wu.h (fun h => ?_) (fun h => ?_)) <;> try simp only [h] | (with_reducible refine Wn.h (fun h => ?_) ?_) <;> try (exfalso; omega) | ((fail_if_success with_reducible refine Wz.h ?_); simp (disch := omega) only [↓LD, LU, LS, LT, loadA_rf, seval]) | ((with_reducible refine And.intro ?_ ?_); omega) | ((fail_if_success with_reducible refine Wz.h ?_); simp only [D.int, D.bool]))
    exact endG rfl rfl (ef := ⟨.sl 0 0 l.length, [], [.data 58 (l.flatMap Sg.cs)]⟩) (by kernel_rfl) ⟨rfl, rfl⟩
instance {l : List Sg} {H : List Row} {K : D → List Row → Prop} : Wa (callW Try.prog (.fn 17 []) [.f (fSg l)] H K) (l.length ≤ 1000000 ∧ K (.sl H.length 0 l.length) (H ++ [.data 58 (l.flatMap Sg.cs)])) := ⟨fun h => callW_new (c_sg_CloneU l h.1) rfl rfl (fun _ => rfl) h.2⟩
instance {l : List Sg} {H : List Row} {K : Bool → D → List Row → Prop} : Wa (callDr Try.prog (.fn 17 []) [.f (fSg l)] H K) (l.length ≤ 1000000 ∧ K true (.sl H.length 0 l.length) (H ++ [.data 58 (l.flatMap Sg.cs)])) := ⟨fun h => callDr_new (c_sg_CloneU l h.1) rfl rfl (fun _ => rfl) h.2⟩
theorem set_self {α : Type} {xs : List α} {i : Nat} {x : α} (h : xs[i]? = some x) : xs.set i x = xs := by
  apply List.ext_getElem?
  intro j
  rw [List.getElem?_set]
  split
  · rename_i e; subst e
    have := (List.getElem?_eq_some_iff.1 h).1
    rw [if_pos this, h]
  · rfl
/-- An event whose definitions lie in a row of their own. -/
def evBL (e : Ev) : Row := .box 37 [D.int e.id, D.int e.ver, D.int e.time, D.int e.ty, D.int e.node, D.int e.n, .f (.v (.string (BB e.name))), .f (fY e.data), .sl 1 0 e.defs.length]
def evN : Row := .box 37 [jI, jI, jI, jI, jI, jI, .f (.v (.string ⟨#[]⟩)), jN, jN]
/-- Copies. -/
theorem c_ev_Copy (e : Ev) (hf : FitN e.defs) (hl : e.defs.length ≤ 1000000) (hd : e.data.length ≤ 1000000) : Con Try.prog 14 [evD e] [] fun r H' => r = evD e ∧ H' = [] := by
  refine Con.walk good fn_ev_Copy (by simp) ?_
  unfold s_ev_Copy evD
  simp only [argsE]
  repeat' (first | (with_reducible first | refine Wa.h ?_ | refine We.h fun K hK => ?_ | refine Wd.h fun K M hK hM => ?_ | (refine hK _ _ _ _ ?_; clear hK K; try clear hM M) | (refine hM ?_; clear hM M; try clear hK K) | refine Ws.h ?_ | refine Wr.h ?_ | refine Wb.h fun K hK => ?_ | (refine hK _ ?_; clear hK K)) | ((with_reducible refine kQ ?_ ?_); kernel_rfl) | ((with_reducible refine k1 ?_ ?_); rfl) | ((with_reducible refine k0 ?_ ?_); rfl) | ((with_reducible apply kB) <;> first | rfl | intro h) | ((with_reducible refine kM ?_ ?_); rfl) | ((with_reducible refine wuT ?_ ?_); · assumption) | ((with_reducible refine wuF ?_ ?_); · assumption) | ((with_reducible refine wtT ?_ ?_); · assumption) | ((with_reducible refine wtF ?_ ?_); · assumption) | (with_reducible refine Wt.h (fun h => ?_) (fun h => ?_)) <;> try (exfalso; omega) | (with_reducible refine Wu.h (fun h => ?_) (fun h => ?_)) <;> try simp only [h] | (with_reducible refine Wn.h (fun h => ?_) ?_) <;> try (exfalso; omega) | ((fail_if_success with_reducible refine Wz.h ?_); simp (disch := omega) only [↓LD, LU, LS, LT, loadA_rf, seval]) | ((with_reducible refine And.intro ?_ ?_); omega) | ((fail_if_success with_reducible refine Wz.h ?_); simp only [D.int, D.bool]))
  obtain ⟨id, ver, time, ty, node, n, name, data, defs⟩ := e
  dsimp only at hf hl hd ⊢
  refine HS.loopG [1, 2, 13, 14, 15] (fun k : Nat => ⟨frm 32 [(1, .pt 0 0), (2, .pt 2 0), (13, .sl 1 0 defs.length), (14, D.int defs.length), (15, D.int k)], [evBL ⟨id, ver, time, ty, node, n, name, data, defs⟩, .data 34 (defs.flatMap Nd.cs), evN], []⟩)
    (fun k => k ≤ defs.length) (fun k => defs.length - k) 0 (by kernel_rfl) (Nat.zero_le _) ?_
  rintro k hk
  by_cases hkl : k < defs.length
  · have hg := hf _ (gt_mem hkl)
    repeat' (first | (with_reducible first | refine Wa.h ?_ | refine We.h fun K hK => ?_ | refine Wd.h fun K M hK hM => ?_ | (refine hK _ _ _ _ ?_; clear hK K; try clear hM M) | (refine hM ?_; clear hM M; try clear hK K) | refine Ws.h ?_ | refine Wr.h ?_ | refine Wb.h fun K hK => ?_ | (refine hK _ ?_; clear hK K)) | ((with_reducible refine kQ ?_ ?_); kernel_rfl) | ((with_reducible refine k1 ?_ ?_); rfl) | ((with_reducible refine k0 ?_ ?_); rfl) | ((with_reducible apply kB) <;> first | rfl | intro h) | ((with_reducible refine kM ?_ ?_); rfl) | ((with_reducible refine wuT ?_ ?_); · assumption) | ((with_reducible refine wuF ?_ ?_); · assumption) | ((with_reducible refine wtT ?_ ?_); · assumption) | ((with_reducible refine wtF ?_ ?_); · assumption) | (with_reducible refine Wt.h (fun h => ?_) (fun h => ?_)) <;> try (exfalso; omega) | (with_reducible refine Wu.h (fun h => ?_) (fun h => ?_)) <;> try simp only [h] | (with_reducible refine Wn.h (fun h => ?_) ?_) <;> try (exfalso; omega) | ((fail_if_success with_reducible refine Wz.h ?_); simp (disch := omega) only [↓LD, LU, LS, LT, loadA_rf, seval, evBL, evN, nd_at0, len_fG]) | ((with_reducible refine And.intro ?_ ?_); omega) | ((fail_if_success with_reducible refine Wz.h ?_); simp only [D.int, D.bool]))
    rw [set_self (by rw [nd_at0 hkl])]
    exact Next.mk (k + 1) (by kernel_rfl) (by omega) (by omega)
  · repeat' (first | (with_reducible first | refine Wa.h ?_ | refine Ws.h ?_ | refine Wr.h ?_ | refine Wb.h fun K hK => ?_ | (refine hK _ ?_; clear hK K)) | ((with_reducible refine kQ ?_ ?_); kernel_rfl) | ((with_reducible refine k1 ?_ ?_); rfl) | ((with_reducible refine k0 ?_ ?_); rfl) | ((with_reducible apply kB) <;> first | rfl | intro h) | ((with_reducible refine kM ?_ ?_); rfl) | ((with_reducible refine wuT ?_ ?_); · assumption) | ((with_reducible refine wuF ?_ ?_); · assumption) | ((with_reducible refine wtT ?_ ?_); · assumption) | ((with_reducible refine wtF ?_ ?_); · assumption) | (with_reducible refine Wt.h (fun h => ?_) (fun h => ?_)) <;> try (exfalso; omega) | (with_reducible refine Wu.h (fun h => ?_) (fun h => ?_)) <;> try simp only [h] | (with_reducible refine Wn.h (fun h => ?_) ?_) <;> try (exfalso; omega) | ((fail_if_success with_reducible refine Wz.h ?_); simp (disch := omega) only [↓LD, LU, LS, LT, loadA_rf, seval, evBL, evN]) | ((with_reducible refine And.intro ?_ ?_); omega) | ((fail_if_success with_reducible refine Wz.h ?_); simp only [D.int, D.bool]))
    exact RetS.still (ds := [.ag [D.int id, D.int ver, D.int time, D.int ty, D.int node, D.int n, .f (.v (.string (BB name))), .f (fY data), .sl 1 0 defs.length]]) (by kernel_rfl) (by kernel_rfl)
      (.ags (.cons .f (.cons .f (.cons .f (.cons .f (.cons .f (.cons .f (.cons .f (.cons .f (.cons (.sl (T := 34) (xs := defs.flatMap Nd.cs) rfl (fun e => by rw [List.eq_nil_of_length_eq_zero e]; rfl)) .nil)))))))))) ⟨rfl, rfl⟩
instance {e : Ev} {H : List Row} {K : D → List Row → Prop} : Wa (callW Try.prog (.fn 14 []) [.ag [.f (.v (.int .i64 e.id)), .f (.v (.int .i64 e.ver)), .f (.v (.int .i64 e.time)), .f (.v (.int .i64 e.ty)), .f (.v (.int .i64 e.node)), .f (.v (.int .i64 e.n)), .f (.v (.string (BB e.name))), .f (fY e.data), .f (fG e.defs)]] H K)
    ((FitN e.defs ∧ e.defs.length ≤ 1000000 ∧ e.data.length ≤ 1000000) ∧ K (evD e) H) :=
  ⟨fun h => callW_pure (c_ev_Copy e h.1.1 h.1.2.1 h.1.2.2) rfl rfl rfl h.2⟩
end Go.Proofs.Ytgbbpelfpagdoaa.Mir

/- A run's state: copied. -/
namespace Go.Proofs.Ytgbbpelfpagdoaa.Mir
open Go Go.RowKit
set_option linter.unusedVariables false
set_option linter.unusedSimpArgs false
set_option maxHeartbeats 4000000

theorem Con.args' {P : Program} {f : FuncId} {args args' : List D} {H : List Row} {Q : D → List Row → Prop} (h : Con P f args H Q) (ha : ∀ (w : World) (φ : Nat → Nat × Nat) (A : Nat → Prop) (N : Nat) (vs : List Value), Rs P w φ A N args' vs → Rs P w φ A N args vs) : Con P f args' H Q :=
  ⟨h.1, fun w φ X vs hH hv => h.2 w φ X vs hH (ha _ _ _ _ _ hv)⟩
theorem rs_wk {P : Program} {w : World} {φ : Nat → Nat × Nat} {A : Nat → Prop} {N : Nat} {ds ds' : List D} (hl : ds.length = ds'.length) (h : ∀ (i : Nat) (d d' : D), ds[i]? = some d → ds'[i]? = some d' → ∀ u, R P w φ A N d u → R P w φ A N d' u) {vs : List Value} (hr : Rs P w φ A N ds vs) : Rs P w φ A N ds' vs :=
  ⟨by rw [hr.1, hl], fun i d' u hd hu => by
    have hi := (List.getElem?_eq_some_iff.1 hd).1
    have hd0 : ds[i]? = some (ds[i]'(by omega)) := List.getElem?_eq_getElem (by omega)
    exact h i _ d' hd0 hd u (hr.2 i _ u hd0 hu)⟩
theorem r_agwk {P : Program} {w : World} {φ : Nat → Nat × Nat} {A : Nat → Prop} {N : Nat} {ds ds' : List D} (hl : ds.length = ds'.length) (h : ∀ (i : Nat) (d d' : D), ds[i]? = some d → ds'[i]? = some d' → ∀ u, R P w φ A N d u → R P w φ A N d' u) {v : Value} (hr : R P w φ A N (.ag ds) v) : R P w φ A N (.ag ds') v := by
  cases hr with
  | ag hs hr h1 =>
    refine .ag (by rw [hs, hl]) (fun i d' u hd hu => ?_) h1
    have hi := (List.getElem?_eq_some_iff.1 hd).1
    have hd0 : ds[i]? = some (ds[i]'(by omega)) := List.getElem?_eq_getElem (by omega)
    exact h i _ d' hd0 hd u (hr i _ u hd0 hu)
/-- The event that bears definitions alone. -/
def evOf (ds : List Nd) : Ev := ⟨0, 0, 0, 0, 0, 0, [], [], ds⟩
theorem c_ev_CopyD (ds : List Nd) (hf : FitN ds) (hl : ds.length ≤ 1000000) : Con Try.prog 14 [.ag [jI, jI, jI, jI, jI, jI, .f (.v (.string ⟨#[]⟩)), jN, .f (fG ds)]] [] fun r H' => r = evD (evOf ds) ∧ H' = [] := by
  refine Con.args' (c_ev_Copy (evOf ds) hf hl (by simp [evOf])) ?_
  intro w φ A N vs hv
  refine rs_wk ?_ ?_ hv
  · rfl
  intro i d d' hd hd' u hr
  rcases i with _ | i
  · simp only [List.getElem?_cons_zero, Option.some.injEq] at hd hd'
    subst hd; subst hd'
    refine r_agwk ?_ ?_ hr
    · rfl
    intro j d d' hd hd' u hr
    rcases j with _ | _ | _ | _ | _ | _ | _ | _ | _ | j
    all_goals (simp [evOf] at hd hd'; try (subst hd; subst hd'; first | exact hr | exact Wk.ns.ok hr))
  · simp at hd
instance {ds : List Nd} {H : List Row} {K : D → List Row → Prop} : Wa (callW Try.prog (.fn 14 []) [.ag [.f (.v (.int .i64 0)), .f (.v (.int .i64 0)), .f (.v (.int .i64 0)), .f (.v (.int .i64 0)), .f (.v (.int .i64 0)), .f (.v (.int .i64 0)), .f (.v (.string ⟨#[]⟩)), .f (.v (.slice none 0 0)), .f (fG ds)]] H K)
    ((FitN ds ∧ ds.length ≤ 1000000) ∧ K (.ag [.f (.v (.int .i64 0)), .f (.v (.int .i64 0)), .f (.v (.int .i64 0)), .f (.v (.int .i64 0)), .f (.v (.int .i64 0)), .f (.v (.int .i64 0)), .f (.v (.string (BB []))), .f (fY []), .f (fG ds)]) H) :=
  ⟨fun h => callW_pure (c_ev_CopyD ds h.1.1 h.1.2) rfl rfl rfl h.2⟩
structure FitS (s : S12) : Prop where
  defs : FitN s.defs ∧ s.defs.length ≤ 1000000
  nodes : s.nodes.length ≤ 1000000
  ndata : ∀ x ∈ s.nodes, x.data.length ≤ 1000000
  tms : s.tms.length ≤ 1000000
  sgs : s.sgs.length ≤ 1000000
  sdata : ∀ x ∈ s.sgs, x.data.length ≤ 1000000
def stD (s : S12) : D := .ag [D.int s.id, D.int s.ver, D.int s.time, D.int s.closed, D.bool s.cancel, .f (fG s.defs), .f (fNn s.nodes), .f (fTm s.tms), .f (fSg s.sgs)]
/-- .. whose lists lie in rows. -/
def stL (a b c : Nat) (s : S12) : List D := [D.int s.id, D.int s.ver, D.int s.time, D.int s.closed, D.bool s.cancel, .f (fG s.defs), .sl a 0 s.nodes.length, .sl b 0 s.tms.length, .sl c 0 s.sgs.length]
def rN (l : List Nn) : Row := .data 39 (l.flatMap Nn.cs)
def rT (l : List Tm) : Row := .data 55 (l.flatMap Tm.cs)
def rS (l : List Sg) : Row := .data 58 (l.flatMap Sg.cs)
def stN : Row := .box 28 [jI, jI, jI, jI, jF, jN, jN, jN, jN]
theorem c_st_copied (s : S12) (hs : FitS s) : Con Try.prog 9 [stD s] [] fun r H' => r = .ag (stL 0 1 2 s) ∧ H' = [rN s.nodes, rT s.tms, rS s.sgs] := by
  obtain ⟨id, ver, time, closed, cancel, defs, nodes, tms, sgs⟩ := s
  obtain ⟨h1, h2, h3, h4, h5, h6⟩ := hs
  dsimp only at h1 h2 h3 h4 h5 h6
  refine Con.walk good fn_st_copied (by simp) ?_
  unfold s_st_copied stD
  simp only [argsE]
  repeat' (first | (with_reducible first | refine Wa.h ?_ | refine We.h fun K hK => ?_ | refine Wd.h fun K M hK hM => ?_ | (refine hK _ _ _ _ ?_; clear hK K; try clear hM M) | (refine hM ?_; clear hM M; try clear hK K) | refine Ws.h ?_ | refine Wr.h ?_ | refine Wb.h fun K hK => ?_ | (refine hK _ ?_; clear hK K)) | ((with_reducible refine kQ ?_ ?_); kernel_rfl) | ((with_reducible refine k1 ?_ ?_); rfl) | ((with_reducible refine k0 ?_ ?_); rfl) | ((with_reducible apply kB) <;> first | rfl | intro h) | ((with_reducible refine kM ?_ ?_); rfl) | ((with_reducible refine wuT ?_ ?_); · assumption) | ((with_reducible refine wuF ?_ ?_); · assumption) | ((with_reducible refine wtT ?_ ?_); · assumption) | ((with_reducible refine wtF ?_ ?_); · assumption) | (with_reducible refine Wt.h (fun h => ?_) (fun h => ?_)) <;> try (exfalso; omega) | (with_reducible refine Wu.h (fun h => ?_) (fun h => ?_)) <;> try simp only [h] | (with_reducible refine Wn.h (fun h => ?_) ?_) <;> try (exfalso; omega) | ((fail_if_success with_reducible refine Wz.h ?_); simp (disch := omega) only [↓LD, LU, LS, LT, loadA_rf, seval, LSt]) | ((with_reducible refine And.intro ?_ ?_); omega) | ((fail_if_success with_reducible refine Wz.h ?_); simp only [D.int, D.bool]))
  refine HS.loopG [1, 2, 24, 25, 26] (fun k : Nat => ⟨frm 62 [(1, .pt 0 0), (2, .pt 4 0), (24, .sl 1 0 nodes.length), (25, D.int nodes.length), (26, D.int k)], [.box 28 (stL 1 2 3 ⟨id, ver, time, closed, cancel, defs, nodes, tms, sgs⟩), rN nodes, rT tms, rS sgs, stN], []⟩)
    (fun k => k ≤ nodes.length) (fun k => nodes.length - k) 0 (by kernel_rfl) (Nat.zero_le _) ?_
  rintro k hk
  by_cases hkl : k < nodes.length
  · have hg := h3 _ (gt_mem hkl)
    repeat' (first | (with_reducible first | refine Wa.h ?_ | refine We.h fun K hK => ?_ | refine Wd.h fun K M hK hM => ?_ | (refine hK _ _ _ _ ?_; clear hK K; try clear hM M) | (refine hM ?_; clear hM M; try clear hK K) | refine Ws.h ?_ | refine Wr.h ?_ | refine Wb.h fun K hK => ?_ | (refine hK _ ?_; clear hK K)) | ((with_reducible refine kQ ?_ ?_); kernel_rfl) | ((with_reducible refine k1 ?_ ?_); rfl) | ((with_reducible refine k0 ?_ ?_); rfl) | ((with_reducible apply kB) <;> first | rfl | intro h) | ((with_reducible refine kM ?_ ?_); rfl) | ((with_reducible refine wuT ?_ ?_); · assumption) | ((with_reducible refine wuF ?_ ?_); · assumption) | ((with_reducible refine wtT ?_ ?_); · assumption) | ((with_reducible refine wtF ?_ ?_); · assumption) | (with_reducible refine Wt.h (fun h => ?_) (fun h => ?_)) <;> try (exfalso; omega) | (with_reducible refine Wu.h (fun h => ?_) (fun h => ?_)) <;> try simp only [h] | (with_reducible refine Wn.h (fun h => ?_) ?_) <;> try (exfalso; omega) | ((fail_if_success with_reducible refine Wz.h ?_); simp (disch := omega) only [↓LD, LU, LS, LT, loadA_rf, seval, LSt, stL, stN, rN, at3_fNn, len_fNn, Nn.cs]) | ((with_reducible refine And.intro ?_ ?_); omega) | ((fail_if_success with_reducible refine Wz.h ?_); simp only [D.int, D.bool]))
    rw [set_self (by rw [at3_fNn hkl]; rfl)]
    exact Next.mk (k + 1) (by kernel_rfl) (by omega) (by omega)
  repeat' (first | (with_reducible first | refine Wa.h ?_ | refine Ws.h ?_ | refine Wr.h ?_ | refine Wb.h fun K hK => ?_ | (refine hK _ ?_; clear hK K)) | ((with_reducible refine kQ ?_ ?_); kernel_rfl) | ((with_reducible refine k1 ?_ ?_); rfl) | ((with_reducible refine k0 ?_ ?_); rfl) | ((with_reducible apply kB) <;> first | rfl | intro h) | ((with_reducible refine kM ?_ ?_); rfl) | ((with_reducible refine wuT ?_ ?_); · assumption) | ((with_reducible refine wuF ?_ ?_); · assumption) | ((with_reducible refine wtT ?_ ?_); · assumption) | ((with_reducible refine wtF ?_ ?_); · assumption) | (with_reducible refine Wt.h (fun h => ?_) (fun h => ?_)) <;> try (exfalso; omega) | (with_reducible refine Wu.h (fun h => ?_) (fun h => ?_)) <;> try simp only [h] | (with_reducible refine Wn.h (fun h => ?_) ?_) <;> try (exfalso; omega) | ((fail_if_success with_reducible refine Wz.h ?_); simp (disch := omega) only [↓LD, LU, LS, LT, loadA_rf, seval, stL, stN]) | ((with_reducible refine And.intro ?_ ?_); omega) | ((fail_if_success with_reducible refine Wz.h ?_); simp only [D.int, D.bool]))
  refine HS.loopG [1, 2, 43, 44, 45] (fun k : Nat => ⟨frm 62 [(1, .pt 0 0), (2, .pt 4 0), (43, .sl 3 0 sgs.length), (44, D.int sgs.length), (45, D.int k)], [.box 28 (stL 1 2 3 ⟨id, ver, time, closed, cancel, defs, nodes, tms, sgs⟩), rN nodes, rT tms, rS sgs, stN], []⟩)
    (fun k => k ≤ sgs.length) (fun k => sgs.length - k) 0 (by kernel_rfl) (Nat.zero_le _) ?_
  clear hk hkl
  rintro k hk
  by_cases hkl : k < sgs.length
  · have hg := h6 _ (gt_mem hkl)
    repeat' (first | (with_reducible first | refine Wa.h ?_ | refine We.h fun K hK => ?_ | refine Wd.h fun K M hK hM => ?_ | (refine hK _ _ _ _ ?_; clear hK K; try clear hM M) | (refine hM ?_; clear hM M; try clear hK K) | refine Ws.h ?_ | refine Wr.h ?_ | refine Wb.h fun K hK => ?_ | (refine hK _ ?_; clear hK K)) | ((with_reducible refine kQ ?_ ?_); kernel_rfl) | ((with_reducible refine k1 ?_ ?_); rfl) | ((with_reducible refine k0 ?_ ?_); rfl) | ((with_reducible apply kB) <;> first | rfl | intro h) | ((with_reducible refine kM ?_ ?_); rfl) | ((with_reducible refine wuT ?_ ?_); · assumption) | ((with_reducible refine wuF ?_ ?_); · assumption) | ((with_reducible refine wtT ?_ ?_); · assumption) | ((with_reducible refine wtF ?_ ?_); · assumption) | (with_reducible refine Wt.h (fun h => ?_) (fun h => ?_)) <;> try (exfalso; omega) | (with_reducible refine Wu.h (fun h => ?_) (fun h => ?_)) <;> try simp only [h] | (with_reducible refine Wn.h (fun h => ?_) ?_) <;> try (exfalso; omega) | ((fail_if_success with_reducible refine Wz.h ?_); simp (disch := omega) only [↓LD, LU, LS, LT, loadA_rf, seval, LSt, stL, stN, rS, at2_fSg, len_fSg, Sg.cs]) | ((with_reducible refine And.intro ?_ ?_); omega) | ((fail_if_success with_reducible refine Wz.h ?_); simp only [D.int, D.bool]))
    rw [set_self (by rw [at2_fSg hkl]; rfl)]
    exact Next.mk (k + 1) (by kernel_rfl) (by omega) (by omega)
  repeat' (first | (with_reducible first | refine Wa.h ?_ | refine Ws.h ?_ | refine Wr.h ?_ | refine Wb.h fun K hK => ?_ | (refine hK _ ?_; clear hK K)) | ((with_reducible refine kQ ?_ ?_); kernel_rfl) | ((with_reducible refine k1 ?_ ?_); rfl) | ((with_reducible refine k0 ?_ ?_); rfl) | ((with_reducible apply kB) <;> first | rfl | intro h) | ((with_reducible refine kM ?_ ?_); rfl) | ((with_reducible refine wuT ?_ ?_); · assumption) | ((with_reducible refine wuF ?_ ?_); · assumption) | ((with_reducible refine wtT ?_ ?_); · assumption) | ((with_reducible refine wtF ?_ ?_); · assumption) | (with_reducible refine Wt.h (fun h => ?_) (fun h => ?_)) <;> try (exfalso; omega) | (with_reducible refine Wu.h (fun h => ?_) (fun h => ?_)) <;> try simp only [h] | (with_reducible refine Wn.h (fun h => ?_) ?_) <;> try (exfalso; omega) | ((fail_if_success with_reducible refine Wz.h ?_); simp (disch := omega) only [↓LD, LU, LS, LT, loadA_rf, seval, stL, stN]) | ((with_reducible refine And.intro ?_ ?_); omega) | ((fail_if_success with_reducible refine Wz.h ?_); simp only [D.int, D.bool]))
  exact RetS.gather (ds := [.ag (stL 1 2 3 ⟨id, ver, time, closed, cancel, defs, nodes, tms, sgs⟩)]) (e := ⟨.ag (stL 0 1 2 ⟨id, ver, time, closed, cancel, defs, nodes, tms, sgs⟩), [], [rN nodes, rT tms, rS sgs]⟩) (by kernel_rfl) (by kernel_rfl) ⟨rfl, rfl⟩
end Go.Proofs.Ytgbbpelfpagdoaa.Mir

/- The program's graphs: their contracts over plain lists: order. -/
namespace Go.Proofs.Ytgbbpelfpagdoaa.Mir
open Go Go.RowKit
set_option linter.unusedVariables false
set_option linter.unusedSimpArgs false
set_option maxHeartbeats 2000000

/-- The next node that may be done; -1. -/
def nxt (done : List Bool) : Nat → List Nd → Int
  | _, [] => -1
  | k, d :: ds => if !gt done k && metB done d.ns then k else nxt done (k + 1) ds
def ordF (ds : List Nd) : Nat → List Bool → List Int → List Int
  | 0, _, out => out
  | n + 1, done, out => if nxt done 0 ds < 0 then out else ordF ds n (done.set (nxt done 0 ds).toNat true) (out ++ [nxt done 0 ds])
def orderL (ds : List Nd) : List Int := ordF ds ds.length (List.replicate ds.length false) []
/-- Graphs small enough to walk. -/
def Fit (ds : List Nd) : Prop := ds.length < 1000 ∧ ∀ d ∈ ds, d.ns.length < 1000000
def Pos (ds : List Nd) : Prop := ∀ d ∈ ds, ∀ x ∈ d.ns, 0 ≤ x
/-- A list that grows from nil, beside a list of bools: the list, the bools' row, the rows (in the order of a sweep). -/
def outS (done : List Bool) (n : Nat) : List Int → D × Nat × List Row
  | [] => (.f (.v (.slice none 0 0)), 0, [.data 4 (done.map bF)])
  | x :: l => (.sl 0 0 n, 1, [.data 3 ((x :: l).map iF), .data 4 (done.map bF)])
theorem ordF_step {ds : List Nd} {i : Nat} {done : List Bool} {out : List Int} (h : i < ds.length) : ordF ds (ds.length - i) done out = if nxt done 0 ds < 0 then out else ordF ds (ds.length - (i + 1)) (done.set (nxt done 0 ds).toNat true) (out ++ [nxt done 0 ds]) := by
  rw [show ds.length - i = ds.length - (i + 1) + 1 by omega, ordF]
theorem mk_bools (n : Nat) : (List.range n).map (fun j => [F.v (.bool false)].getD (j % 1) (.v Go.undef)) = (List.replicate n false).map bF := by
  apply List.ext_getElem
  · simp
  · intro i h1 h2; simp [Nat.mod_one]
theorem c_dag_order (ds : List Nd) (hl : Fit ds) (hp : Pos ds) : Con Try.prog 40 [.f (fG ds)] [] fun r H' => r = .f (fI (orderL ds)) ∧ H' = [] := by
  obtain ⟨hl, hn⟩ := hl
  refine Con.walk good fn_dag_order (by simp) ?_
  unfold s_dag_order
  simp only [argsE, List.length_cons, List.length_nil, Nat.reduceAdd]
  repeat' (first | (with_reducible first | refine Wa.h ?_ | refine Ws.h ?_ | refine Wr.h ?_ | refine Wb.h fun K hK => ?_ | (refine hK _ ?_; clear hK K)) | ((with_reducible refine kQ ?_ ?_); kernel_rfl) | ((with_reducible refine k1 ?_ ?_); rfl) | ((with_reducible refine k0 ?_ ?_); rfl) | ((with_reducible apply kB) <;> first | rfl | intro h) | ((with_reducible refine kM ?_ ?_); rfl) | (with_reducible refine Wt.h (fun h => ?_) (fun h => ?_)) <;> try (exfalso; omega) | (with_reducible refine Wu.h (fun h => ?_) (fun h => ?_)) <;> try simp only [h] | (with_reducible refine Wn.h (fun h => ?_) ?_) <;> try (exfalso; omega) | ((fail_if_success with_reducible refine Wz.h ?_); simp (disch := omega) only [↓LD, LU, LS, LT, loadA_rf, seval, fG]) | ((with_reducible refine And.intro ?_ ?_); omega) | ((fail_if_success with_reducible refine Wz.h ?_); simp only [D.int, D.bool]))
  rw [mk_bools]
  refine HS.loopG [0, 3, 4, 12, 13] (fun x : Nat × List Bool × List Int => ⟨frm 50 [(0, .f (fG ds)), (3, (outS x.2.1 x.1 x.2.2).1), (4, .sl (outS x.2.1 x.1 x.2.2).2.1 0 ds.length), (12, D.int ds.length), (13, D.int x.1)], (outS x.2.1 x.1 x.2.2).2.2, []⟩)
    (fun x => x.1 ≤ ds.length ∧ x.2.1.length = ds.length ∧ x.2.2.length = x.1 ∧ orderL ds = ordF ds (ds.length - x.1) x.2.1 x.2.2) (fun x => ds.length - x.1) (0, List.replicate ds.length false, []) (by kernel_rfl) ⟨Nat.zero_le _, List.length_replicate, rfl, rfl⟩ ?_
  rintro ⟨i, done, out⟩ ⟨hi, hd, ho, hr⟩
  dsimp only at hi hd ho hr
  rcases out with _ | ⟨a, l⟩
  · repeat' (first | (with_reducible first | refine Wa.h ?_ | refine Ws.h ?_ | refine Wr.h ?_ | refine Wb.h fun K hK => ?_ | (refine hK _ ?_; clear hK K)) | ((with_reducible refine kQ ?_ ?_); kernel_rfl) | ((with_reducible refine k1 ?_ ?_); rfl) | ((with_reducible refine k0 ?_ ?_); rfl) | ((with_reducible apply kB) <;> first | rfl | intro h) | ((with_reducible refine kM ?_ ?_); rfl) | (with_reducible refine Wt.h (fun h => ?_) (fun h => ?_)) <;> try (exfalso; omega) | (with_reducible refine Wu.h (fun h => ?_) (fun h => ?_)) <;> try simp only [h] | (with_reducible refine Wn.h (fun h => ?_) ?_) <;> try (exfalso; omega) | ((fail_if_success with_reducible refine Wz.h ?_); simp (disch := omega) only [↓LD, LU, LS, LT, loadA_rf, seval, fG, outS, nd_load, nd_cs, nd_at0, nd_at1, nd_at2, -loadA_rf]) | ((with_reducible refine And.intro ?_ ?_); omega) | ((fail_if_success with_reducible refine Wz.h ?_); simp only [D.int, D.bool]))
    refine HS.loopG [0, 3, 4, 5, 12, 13, 15, 16, 17] (fun x : Nat × Int => ⟨frm 50 [(0, .f (fG ds)), (3, (outS done i []).1), (4, .sl (outS done i []).2.1 0 ds.length), (5, D.int x.2), (12, D.int ds.length), (13, D.int i), (15, .f (fG ds)), (16, D.int ds.length), (17, D.int x.1)], (outS done i []).2.2, []⟩)
      (fun x => x.1 ≤ ds.length ∧ (0 ≤ x.2 → nxt done 0 ds = x.2) ∧ (x.2 < 0 → x.2 = -1 ∧ nxt done 0 ds = nxt done x.1 (ds.drop x.1)) ∧ x.2 < ds.length) (fun x => ds.length - x.1) (0, -1) (by kernel_rfl) ⟨Nat.zero_le _, by simp, by simp, by simp; omega⟩ ?_
    rintro ⟨k, z⟩ ⟨hk, hz, hz', hzl⟩
    dsimp only at hk hz hz' hzl
    repeat' (first | (with_reducible first | refine Wa.h ?_ | refine Ws.h ?_ | refine Wr.h ?_ | refine Wb.h fun K hK => ?_ | (refine hK _ ?_; clear hK K)) | ((with_reducible refine kQ ?_ ?_); kernel_rfl) | ((with_reducible refine k1 ?_ ?_); rfl) | ((with_reducible refine k0 ?_ ?_); rfl) | ((with_reducible apply kB) <;> first | rfl | intro h) | ((with_reducible refine kM ?_ ?_); rfl) | (with_reducible refine Wt.h (fun h => ?_) (fun h => ?_)) <;> try (exfalso; omega) | (with_reducible refine Wu.h (fun h => ?_) (fun h => ?_)) <;> try simp only [h] | (with_reducible refine Wn.h (fun h => ?_) ?_) <;> try (exfalso; omega) | ((fail_if_success with_reducible refine Wz.h ?_); simp (disch := omega) only [↓LD, LU, LS, LT, loadA_rf, seval, fG, outS, nd_load, nd_cs, nd_at0, nd_at1, nd_at2, -loadA_rf]) | ((with_reducible refine And.intro ?_ ?_); omega) | ((fail_if_success with_reducible refine Wz.h ?_); simp only [D.int, D.bool]))
    · refine callW_peek (c_dag_met (gt ds k).ns done (hp _ (gt_mem (by omega))) (hn _ (gt_mem (by omega))) (by omega)) (.cons .f (.cons (hd ▸ .sl rfl (fun e => by simp; omega)) .nil)) ?_ ?_
      · rintro _ _ ⟨rfl, rfl⟩
        exact ⟨.f .v, by simp⟩
      rintro _ _ ⟨rfl, rfl⟩
      repeat' (first | (with_reducible first | refine Wa.h ?_ | refine Ws.h ?_ | refine Wr.h ?_ | refine Wb.h fun K hK => ?_ | (refine hK _ ?_; clear hK K)) | ((with_reducible refine kQ ?_ ?_); kernel_rfl) | ((with_reducible refine k1 ?_ ?_); rfl) | ((with_reducible refine k0 ?_ ?_); rfl) | ((with_reducible apply kB) <;> first | rfl | intro h) | ((with_reducible refine kM ?_ ?_); rfl) | (with_reducible refine Wt.h (fun h => ?_) (fun h => ?_)) <;> try (exfalso; omega) | (with_reducible refine Wu.h (fun h => ?_) (fun h => ?_)) <;> try simp only [h] | (with_reducible refine Wn.h (fun h => ?_) ?_) <;> try (exfalso; omega) | ((fail_if_success with_reducible refine Wz.h ?_); simp (disch := omega) only [↓LD, LU, LS, LT, loadA_rf, seval, fG, outS, nd_load, nd_cs, nd_at0, nd_at1, nd_at2, -loadA_rf, List.append_nil]) | ((with_reducible refine And.intro ?_ ?_); omega) | ((fail_if_success with_reducible refine Wz.h ?_); simp only [D.int, D.bool]))
      · refine Next.mk (k + 1, (k : Int)) (by kernel_rfl) ⟨by omega, fun _ => ?_, fun h => by omega, by omega⟩ (by omega)
        rw [(hz' (by assumption)).2, drop_gt (by omega), nxt, if_pos (by simp_all)]
      · refine Next.mk (k + 1, z) (by kernel_rfl) ⟨by omega, fun h => by omega, fun h => ⟨(hz' h).1, ?_⟩, hzl⟩ (by omega)
        rw [(hz' (by assumption)).2, drop_gt (by omega), nxt, if_neg (by simp_all)]
    · refine Next.mk (k + 1, z) (by kernel_rfl) ⟨by omega, fun h => by omega, fun h => ⟨(hz' h).1, ?_⟩, hzl⟩ (by omega)
      rw [(hz' (by assumption)).2, drop_gt (by omega), nxt, if_neg (by simp_all)]
    · refine Next.mk (k + 1, z) (by kernel_rfl) ⟨by omega, hz, fun h => by omega, hzl⟩ (by omega)
    · have hn0 : nxt done 0 ds = -1 := by rw [(hz' (by assumption)).2, List.drop_of_length_le (by omega), nxt]
      refine end1 rfl rfl (by kernel_rfl) (.nil) ⟨congrArg D.f ?_, rfl⟩
      rw [hr, ordF_step (by omega), if_pos (by omega)]; first | rfl | (unfold fI; rw [ho]; rfl)
    · have hn0 : nxt done 0 ds = z := hz (by omega)
      subst ho
      refine Next.mk (0 + 1, done.set z.toNat true, [] ++ [z]) (by kernel_rfl) ⟨by simp at *; omega, by simp [hd], by simp, ?_⟩ (by simp at *; omega)
      rw [hr, ordF_step (by omega), if_neg (by omega), hn0]; rfl
    all_goals
      refine end1 rfl rfl (by kernel_rfl) (.nil) ⟨congrArg D.f ?_, rfl⟩
      rw [hr, show ds.length - i = 0 by omega]; first | rfl | (unfold fI ordF; rw [ho]; rfl)
  · repeat' (first | (with_reducible first | refine Wa.h ?_ | refine Ws.h ?_ | refine Wr.h ?_ | refine Wb.h fun K hK => ?_ | (refine hK _ ?_; clear hK K)) | ((with_reducible refine kQ ?_ ?_); kernel_rfl) | ((with_reducible refine k1 ?_ ?_); rfl) | ((with_reducible refine k0 ?_ ?_); rfl) | ((with_reducible apply kB) <;> first | rfl | intro h) | ((with_reducible refine kM ?_ ?_); rfl) | (with_reducible refine Wt.h (fun h => ?_) (fun h => ?_)) <;> try (exfalso; omega) | (with_reducible refine Wu.h (fun h => ?_) (fun h => ?_)) <;> try simp only [h] | (with_reducible refine Wn.h (fun h => ?_) ?_) <;> try (exfalso; omega) | ((fail_if_success with_reducible refine Wz.h ?_); simp (disch := omega) only [↓LD, LU, LS, LT, loadA_rf, seval, fG, outS, nd_load, nd_cs, nd_at0, nd_at1, nd_at2, -loadA_rf]) | ((with_reducible refine And.intro ?_ ?_); omega) | ((fail_if_success with_reducible refine Wz.h ?_); simp only [D.int, D.bool]))
    refine HS.loopG [0, 3, 4, 5, 12, 13, 15, 16, 17] (fun x : Nat × Int => ⟨frm 50 [(0, .f (fG ds)), (3, (outS done i (a :: l)).1), (4, .sl (outS done i (a :: l)).2.1 0 ds.length), (5, D.int x.2), (12, D.int ds.length), (13, D.int i), (15, .f (fG ds)), (16, D.int ds.length), (17, D.int x.1)], (outS done i (a :: l)).2.2, []⟩)
      (fun x => x.1 ≤ ds.length ∧ (0 ≤ x.2 → nxt done 0 ds = x.2) ∧ (x.2 < 0 → x.2 = -1 ∧ nxt done 0 ds = nxt done x.1 (ds.drop x.1)) ∧ x.2 < ds.length) (fun x => ds.length - x.1) (0, -1) (by kernel_rfl) ⟨Nat.zero_le _, by simp, by simp, by simp; omega⟩ ?_
    rintro ⟨k, z⟩ ⟨hk, hz, hz', hzl⟩
    dsimp only at hk hz hz' hzl
    repeat' (first | (with_reducible first | refine Wa.h ?_ | refine Ws.h ?_ | refine Wr.h ?_ | refine Wb.h fun K hK => ?_ | (refine hK _ ?_; clear hK K)) | ((with_reducible refine kQ ?_ ?_); kernel_rfl) | ((with_reducible refine k1 ?_ ?_); rfl) | ((with_reducible refine k0 ?_ ?_); rfl) | ((with_reducible apply kB) <;> first | rfl | intro h) | ((with_reducible refine kM ?_ ?_); rfl) | (with_reducible refine Wt.h (fun h => ?_) (fun h => ?_)) <;> try (exfalso; omega) | (with_reducible refine Wu.h (fun h => ?_) (fun h => ?_)) <;> try simp only [h] | (with_reducible refine Wn.h (fun h => ?_) ?_) <;> try (exfalso; omega) | ((fail_if_success with_reducible refine Wz.h ?_); simp (disch := omega) only [↓LD, LU, LS, LT, loadA_rf, seval, fG, outS, nd_load, nd_cs, nd_at0, nd_at1, nd_at2, -loadA_rf]) | ((with_reducible refine And.intro ?_ ?_); omega) | ((fail_if_success with_reducible refine Wz.h ?_); simp only [D.int, D.bool]))
    · refine callW_peek (c_dag_met (gt ds k).ns done (hp _ (gt_mem (by omega))) (hn _ (gt_mem (by omega))) (by omega)) (.cons .f (.cons (hd ▸ .sl rfl (fun e => by simp; omega)) .nil)) ?_ ?_
      · rintro _ _ ⟨rfl, rfl⟩
        exact ⟨.f .v, by simp⟩
      rintro _ _ ⟨rfl, rfl⟩
      repeat' (first | (with_reducible first | refine Wa.h ?_ | refine Ws.h ?_ | refine Wr.h ?_ | refine Wb.h fun K hK => ?_ | (refine hK _ ?_; clear hK K)) | ((with_reducible refine kQ ?_ ?_); kernel_rfl) | ((with_reducible refine k1 ?_ ?_); rfl) | ((with_reducible refine k0 ?_ ?_); rfl) | ((with_reducible apply kB) <;> first | rfl | intro h) | ((with_reducible refine kM ?_ ?_); rfl) | (with_reducible refine Wt.h (fun h => ?_) (fun h => ?_)) <;> try (exfalso; omega) | (with_reducible refine Wu.h (fun h => ?_) (fun h => ?_)) <;> try simp only [h] | (with_reducible refine Wn.h (fun h => ?_) ?_) <;> try (exfalso; omega) | ((fail_if_success with_reducible refine Wz.h ?_); simp (disch := omega) only [↓LD, LU, LS, LT, loadA_rf, seval, fG, outS, nd_load, nd_cs, nd_at0, nd_at1, nd_at2, -loadA_rf, List.append_nil]) | ((with_reducible refine And.intro ?_ ?_); omega) | ((fail_if_success with_reducible refine Wz.h ?_); simp only [D.int, D.bool]))
      · refine Next.mk (k + 1, (k : Int)) (by kernel_rfl) ⟨by omega, fun _ => ?_, fun h => by omega, by omega⟩ (by omega)
        rw [(hz' (by assumption)).2, drop_gt (by omega), nxt, if_pos (by simp_all)]
      · refine Next.mk (k + 1, z) (by kernel_rfl) ⟨by omega, fun h => by omega, fun h => ⟨(hz' h).1, ?_⟩, hzl⟩ (by omega)
        rw [(hz' (by assumption)).2, drop_gt (by omega), nxt, if_neg (by simp_all)]
    · refine Next.mk (k + 1, z) (by kernel_rfl) ⟨by omega, fun h => by omega, fun h => ⟨(hz' h).1, ?_⟩, hzl⟩ (by omega)
      rw [(hz' (by assumption)).2, drop_gt (by omega), nxt, if_neg (by simp_all)]
    · refine Next.mk (k + 1, z) (by kernel_rfl) ⟨by omega, hz, fun h => by omega, hzl⟩ (by omega)
    · have hn0 : nxt done 0 ds = -1 := by rw [(hz' (by assumption)).2, List.drop_of_length_le (by omega), nxt]
      refine end1 rfl rfl (by kernel_rfl) (.sl rfl (fun e => by simp at ho; omega)) ⟨congrArg D.f ?_, rfl⟩
      rw [hr, ordF_step (by omega), if_pos (by omega)]; first | rfl | (unfold fI; rw [ho]; rfl)
    · have hn0 : nxt done 0 ds = z := hz (by omega)
      subst ho
      refine Next.mk ((l.length + 1) + 1, done.set z.toNat true, (a :: l) ++ [z]) (by kernel_rfl) ⟨by simp at *; omega, by simp [hd], by simp, ?_⟩ (by simp at *; omega)
      rw [hr, ordF_step (by omega), if_neg (by omega), hn0]; rfl
    all_goals
      refine end1 rfl rfl (by kernel_rfl) (.sl rfl (fun e => by simp at ho; omega)) ⟨congrArg D.f ?_, rfl⟩
      rw [hr, show ds.length - i = 0 by omega]; first | rfl | (unfold fI ordF; rw [ho]; rfl)
end Go.Proofs.Ytgbbpelfpagdoaa.Mir
