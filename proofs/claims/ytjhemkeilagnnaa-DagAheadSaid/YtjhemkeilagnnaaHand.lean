/- The hand's Pick; contracts out of runs. -/
import Derived.Test.YtjhemkeilagnnaaT
import Derived.Test.YtjhemkeilagnnaaMirUse
import Derived.Test.YtjhemkeilagnnaaCLawDag
namespace Go.Proofs.Ytjhemkeilagnnaa.Mir
open Go Go.RowKit
set_option linter.unusedVariables false
set_option linter.unusedSimpArgs false
set_option maxHeartbeats 2000000

def pick (x n : Int) : Int := if x.tmod n < 0 then x.tmod n + n else x.tmod n
theorem tmod_lt {x n : Int} (hn : 0 < n) : x.tmod n < n := Int.tmod_lt_of_pos x hn
theorem tmod_gt {x n : Int} (hn : 0 < n) : -n < x.tmod n := by
  have := Int.tmod_lt_of_pos (-x) hn
  rw [Int.neg_tmod] at this; omega
theorem pick_in {x n : Int} (hn : 0 < n) : 0 ≤ pick x n ∧ pick x n < n := by
  have h1 := tmod_lt (x := x) hn
  have h2 := tmod_gt (x := x) hn
  unfold pick; split <;> omega
theorem c_hand_Pick (x n : Int) (hn : 0 < n) (hn2 : n ≤ 1000000) : Con Try.prog 23 [D.int x, D.int n] [] fun r H' => r = D.int (pick x n) ∧ H' = [] := by
  have h1 := tmod_lt (x := x) hn
  have h2 := tmod_gt (x := x) hn
  refine Con.walk good fn_hand_Pick (by simp) ?_
  unfold s_hand_Pick
  simp only [argsE, List.length_cons, List.length_nil, Nat.reduceAdd]
  repeat' (first | (with_reducible refine HS.seq ?_) | (with_reducible refine HS.opsK good (fun K hK => ?_)) | (with_reducible refine wpS_app (fun K hK => ?_)) | ((with_reducible refine hK _ ?_); clear hK K) | (with_reducible refine HS.drw good (fun K hK => ?_)) | ((with_reducible refine And.intro (Chk.mk' ?_) ?_); kernel_rfl) | (with_reducible refine HS.block ?_) | ((with_reducible refine HS.cond1 ?_ ?_); rfl) | ((with_reducible refine HS.cond0 ?_ ?_); rfl) | ((with_reducible apply HS.condB) <;> first | rfl | (with_reducible intro h)) | (with_reducible refine HS.exit ?_) | (with_reducible refine HS.ret ?_) | (with_reducible refine HS.skip ?_) | (with_reducible first | refine thenQ_n ?_ | refine blockQ_n ?_ | refine thenQ_r ?_ | refine blockQ_r ?_ | refine thenQ_x ?_ | refine blockQ_hit ?_ | refine endS_r ?_ | refine endS_n ?_) | ((with_reducible refine blockQ_miss ?_ ?_); rfl) | (with_reducible refine Two.mk' (fun h => ?_) (fun h => ?_) <;> try (exfalso; omega)) | ((with_reducible refine Bsel.mk' (fun h => ?_) (fun h => ?_)) <;> (try simp only [h])) | ((fail_if_success (with_reducible first | refine isHS ?_ | refine isRet ?_ | refine isCall ?_ | refine isNext ?_ | refine isNextP ?_ | refine isThen ?_ | refine isBlock ?_ | refine isOut ?_ | refine isOutN ?_)); simp (disch := omega) only [↓LD, LU, loadA_rf, wpS_nil, wpS_a, wpS_n, wpS_g, ↓Bsel_true, ↓Bsel_false, frm_get, frm_getD, frm_set, look_cons, look_nil, List.set_cons_succ, List.set_cons_zero, List.getElem?_cons_succ, List.getElem?_cons_zero, ↓bind'_some, ↓Two_true, ↓Two_false, List.length_cons, List.length_nil, List.cons_append, List.nil_append, List.map_cons, List.map_nil, List.take_succ_cons, List.take_zero, List.drop_succ_cons, List.drop_zero, Option.map_some, Option.map_none, ↓reduceIte, Nat.reduceAdd, Nat.reduceMul, Nat.reduceSub, Nat.reduceLeDiff, Nat.reduceLT, Nat.reduceEqDiff, Nat.add_zero, Nat.zero_add, Nat.mul_one, Int.toNat_natCast, Nat.mul_zero, Nat.zero_mul, true_and, and_true, reduceCtorEq, Int.reduceNeg, Int.reduceLT, Int.reduceLE, Int.reduceEq, Int.reduceToNat, wrap_in, List.getElem?_drop, List.getElem?_map, List.length_map, if_some, most_eq, set_map_b, app_map_i, getElem?_some_of, Int.natCast_nonneg, Bool.false_eq_true, decide_true, decide_false, Bool.not_true, Bool.not_false, and_self, eq_self, false_implies, or_self, Bool.and_self, false_or, or_false, Bool.false_and, Bool.true_beq, Bool.false_beq]) | ((with_reducible refine And.intro ?_ ?_); omega) | ((fail_if_success (with_reducible first | refine isHS ?_ | refine isRet ?_ | refine isCall ?_ | refine isNext ?_ | refine isNextP ?_ | refine isThen ?_ | refine isBlock ?_ | refine isOut ?_ | refine isOutN ?_)); (simp only [D.int, D.bool])))
  · refine end1 rfl rfl (by kernel_rfl) .f ⟨congrArg D.int ?_, rfl⟩
    rw [pick, if_pos h]
  · refine end1 rfl rfl (by kernel_rfl) .f ⟨congrArg D.int ?_, rfl⟩
    rw [pick, if_neg h]

/-- A run tells a contract. -/
theorem Con.run {P : Program} (hP : Good P) {ext : Ext} (hext : ∀ f g, ext f = some g → Sound P f g) {n : Nat} {f : FuncId} {args : List D} {H : List Row} {e : Eff} (hf : ∃ fn, P.funcs[f]? = some fn ∧ fn.body.isSome = true)
    (h : Mir.run P ext n f args H = some e) : Con P f args H fun r H' => r = e.res ∧ H' = e.heap H :=
  ⟨hf, fun w φ X vs hH ha => (run_ok hP hext n f args H e h w φ X vs hH ha).mono fun _ _ ⟨v, h1, h2⟩ => ⟨v, e.res, e.heap H, h1, ⟨rfl, rfl⟩, LeavesW.of h2⟩⟩
theorem Fn.has {P : Program} {f : FuncId} {n : Nat} {rs : List SR} {c : SCode} (h : Fn P f n rs c) : ∃ fn, P.funcs[f]? = some fn ∧ fn.body.isSome = true := by
  obtain ⟨fn, k, h1, h2, _⟩ := h
  exact ⟨fn, h1, by rw [h2]; rfl⟩
end Go.Proofs.Ytjhemkeilagnnaa.Mir
