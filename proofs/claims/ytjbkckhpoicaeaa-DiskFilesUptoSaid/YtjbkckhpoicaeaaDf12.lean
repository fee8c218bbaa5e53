/- Texts laid into one file: DiskO, DiskG, DiskOM, DiskFM. -/
import Derived.Test.YtjbkckhpoicaeaaDf11

/- The program's disk: a Crash of any kind. -/
namespace Go.Proofs.Ytjbkckhpoicaeaa.Mir
open Go Go.RowKit
set_option linter.unusedVariables false
set_option linter.unusedSimpArgs false
set_option maxHeartbeats 2000000

def restN (x m : Int) : Int := (x.tmod m + m).tmod m
theorem restN_in {x m : Int} (hm : 0 < m) : 0 ≤ restN x m ∧ restN x m < m := by
  have h1 := tmod_gt' (x := x) hm
  unfold restN
  exact ⟨Int.tmod_nonneg _ (by omega), Int.tmod_lt_of_pos _ hm⟩
theorem restN_id {x m : Int} (h0 : 0 ≤ x) (h : x < m) : restN x m = x := by
  unfold restN
  rw [Int.tmod_eq_of_lt h0 h, Int.tmod_eq_emod_of_nonneg (by omega), Int.add_emod_right, Int.emod_eq_of_lt h0 h]
theorem c_disk_restG (x m : Int) (hm : 0 < m ∧ m ≤ 281474976710656) : Con Try.prog 56 [D.int x, D.int m] [] fun r H' => r = D.int (restN x m) ∧ H' = [] := by
  have h1 := tmod_lt' (x := x) hm.1
  have h2 := tmod_gt' (x := x) hm.1
  refine Con.walk good fn_disk_rest (by simp) ?_
  unfold s_disk_rest
  simp only [argsE, List.length_cons, List.length_nil, Nat.reduceAdd]
  repeat' (first | (with_reducible refine HS.seq ?_) | (with_reducible refine HS.opsK good (fun K hK => ?_)) | (with_reducible refine wpS_app (fun K hK => ?_)) | ((with_reducible refine hK _ ?_); clear hK K) | (with_reducible refine HS.drw good (fun K hK => ?_)) | ((with_reducible refine And.intro (Chk.mk' ?_) ?_); kernel_rfl) | (with_reducible refine HS.block ?_) | ((with_reducible refine HS.cond1 ?_ ?_); rfl) | ((with_reducible refine HS.cond0 ?_ ?_); rfl) | ((with_reducible apply HS.condB) <;> first | rfl | (with_reducible intro h)) | (with_reducible refine HS.exit ?_) | (with_reducible refine HS.ret ?_) | (with_reducible refine HS.skip ?_) | (with_reducible first | refine thenQ_n ?_ | refine blockQ_n ?_ | refine thenQ_r ?_ | refine blockQ_r ?_ | refine thenQ_x ?_ | refine blockQ_hit ?_ | refine endS_r ?_ | refine endS_n ?_) | ((with_reducible refine blockQ_miss ?_ ?_); rfl) | (with_reducible refine Two.mk' (fun h => ?_) (fun h => ?_) <;> try (exfalso; omega)) | ((with_reducible refine Bsel.mk' (fun h => ?_) (fun h => ?_)) <;> (try simp only [h])) | ((fail_if_success (with_reducible first | refine isHS ?_ | refine isRet ?_ | refine isCall ?_ | refine isNext ?_ | refine isNextP ?_ | refine isThen ?_ | refine isBlock ?_ | refine isOut ?_ | refine isOutN ?_)); simp (disch := omega) only [↓LD, LU, loadA_rf, wpS_nil, wpS_a, wpS_n, wpS_g, ↓Bsel_true, ↓Bsel_false, frm_get, frm_getD, frm_set, look_cons, look_nil, List.set_cons_succ, List.set_cons_zero, List.getElem?_cons_succ, List.getElem?_cons_zero, ↓bind'_some, ↓Two_true, ↓Two_false, List.length_cons, List.length_nil, List.cons_append, List.nil_append, List.map_cons, List.map_nil, List.take_succ_cons, List.take_zero, List.drop_succ_cons, List.drop_zero, Option.map_some, Option.map_none, ↓reduceIte, Nat.reduceAdd, Nat.reduceMul, Nat.reduceSub, Nat.reduceLeDiff, Nat.reduceLT, Nat.reduceEqDiff, Nat.add_zero, Nat.zero_add, Nat.mul_one, Int.toNat_natCast, Nat.mul_zero, Nat.zero_mul, true_and, and_true, reduceCtorEq, Int.reduceNeg, Int.reduceLT, Int.reduceLE, Int.reduceEq, Int.reduceToNat, wrap_in, List.getElem?_drop, List.getElem?_map, List.length_map, if_some, most_eq, set_map_b, app_map_i, getElem?_some_of, Int.natCast_nonneg, Bool.false_eq_true, decide_true, decide_false, Bool.not_true, Bool.not_false, and_self, eq_self, false_implies, or_self, Bool.and_self, false_or, or_false, Bool.false_and, Bool.true_beq, Bool.false_beq]) | ((with_reducible refine And.intro ?_ ?_); omega) | ((fail_if_success (with_reducible first | refine isHS ?_ | refine isRet ?_ | refine isCall ?_ | refine isNext ?_ | refine isNextP ?_ | refine isThen ?_ | refine isBlock ?_ | refine isOut ?_ | refine isOutN ?_)); (simp only [D.int, D.bool])))
  exact end1 rfl rfl (by kernel_rfl) .f ⟨rfl, rfl⟩
/-- One work of a crash. -/
def stepC (k cut : Int) (e : Fs) (i : Nat) (w : Wk) : Fs :=
  if (i : Int) < k then fDo e w.k w.b
  else if (i : Int) = k ∧ w.b ≠ [] ∧ w.b.take (restN cut (w.b.length + 1 : Nat)).toNat ≠ [] then fDo e w.k (w.b.take (restN cut (w.b.length + 1 : Nat)).toNat)
  else e
/-- The files behind so many works of a crash. -/
def crF (e : Fs) (ws : List Wk) (k cut : Int) : Nat → Fs
  | 0 => e
  | i + 1 => stepC k cut (crF e ws k cut i) i (gt ws i)
theorem take_uF {b : List UInt8} {k : Nat} : (b.map uF).take k = (b.take k).map uF := List.map_take.symm
set_option maxRecDepth 100000 in
theorem c_disk_Crash (e1 e2 : Fs) (n : Nat) (ws : List Wk) (fuse : Int) (dead : Bool) (works done cut : Int) (B : Nat) (hn : ws.length = n) (hn2 : n ≤ 1000000) (hws : ∀ w ∈ ws, w.b.length ≤ 140737488355328)
    (hok : ∀ i, i < n → FsOk (crF e1 ws (restN done (n + 1 : Nat)) cut i) B ∧ ((fGet (crF e1 ws (restN done (n + 1 : Nat)) cut i) (gt ws i).k).getD []).length + (gt ws i).b.length ≤ 140737488355328) :
    Con Try.prog 24 [.pt 0 0, D.int done, D.int cut] (dkR e1 e2 n ws fuse dead works) fun r H' => r = .tp [] ∧ H' = dkC (crF e1 ws (restN done (n + 1 : Nat)) cut n) e2 n ws works := by
  refine Con.walk good fn_disk_Crash (by simp) ?_
  unfold s_disk_Crash
  simp only [argsE, List.length_cons, List.length_nil, Nat.reduceAdd]
  rcases n with _ | n
  · repeat' (first | (with_reducible refine HS.seq ?_) | (with_reducible refine HS.opsK good (fun K hK => ?_)) | (with_reducible refine wpS_app (fun K hK => ?_)) | ((with_reducible refine hK _ ?_); clear hK K) | (with_reducible refine HS.drw good (fun K hK => ?_)) | ((with_reducible refine And.intro (Chk.mk' ?_) ?_); kernel_rfl) | (with_reducible refine HS.block ?_) | ((with_reducible refine HS.cond1 ?_ ?_); rfl) | ((with_reducible refine HS.cond0 ?_ ?_); rfl) | ((with_reducible apply HS.condB) <;> first | rfl | (with_reducible intro h)) | (with_reducible refine HS.exit ?_) | (with_reducible refine HS.ret ?_) | (with_reducible refine HS.skip ?_) | (with_reducible first | refine thenQ_n ?_ | refine blockQ_n ?_ | refine thenQ_r ?_ | refine blockQ_r ?_ | refine thenQ_x ?_ | refine blockQ_hit ?_ | refine endS_r ?_ | refine endS_n ?_) | ((with_reducible refine blockQ_miss ?_ ?_); rfl) | (with_reducible refine Two.mk' (fun h => ?_) (fun h => ?_) <;> try (exfalso; omega)) | ((with_reducible refine Bsel.mk' (fun h => ?_) (fun h => ?_)) <;> (try simp only [h])) | ((fail_if_success (with_reducible first | refine isHS ?_ | refine isRet ?_ | refine isCall ?_ | refine isNext ?_ | refine isNextP ?_ | refine isThen ?_ | refine isBlock ?_ | refine isOut ?_ | refine isOutN ?_)); simp (disch := omega) only [↓LD, LU, loadA_rf, wpS_nil, wpS_a, wpS_n, wpS_g, ↓Bsel_true, ↓Bsel_false, frm_get, frm_getD, frm_set, look_cons, look_nil, List.set_cons_succ, List.set_cons_zero, List.getElem?_cons_succ, List.getElem?_cons_zero, ↓bind'_some, ↓Two_true, ↓Two_false, List.length_cons, List.length_nil, List.cons_append, List.nil_append, List.map_cons, List.map_nil, List.take_succ_cons, List.take_zero, List.drop_succ_cons, List.drop_zero, Option.map_some, Option.map_none, ↓reduceIte, Nat.reduceAdd, Nat.reduceMul, Nat.reduceSub, Nat.reduceLeDiff, Nat.reduceLT, Nat.reduceEqDiff, Nat.add_zero, Nat.zero_add, Nat.mul_one, Int.toNat_natCast, Nat.mul_zero, Nat.zero_mul, true_and, and_true, reduceCtorEq, Int.reduceNeg, Int.reduceLT, Int.reduceLE, Int.reduceEq, Int.reduceToNat, wrap_in, List.getElem?_drop, List.getElem?_map, List.length_map, if_some, most_eq, set_map_b, app_map_i, getElem?_some_of, Int.natCast_nonneg, Bool.false_eq_true, decide_true, decide_false, Bool.not_true, Bool.not_false, and_self, eq_self, false_implies, or_self, Bool.and_self, false_or, or_false, Bool.false_and, Bool.true_beq, Bool.false_beq, dkR, dkB, dkP]) | ((with_reducible refine And.intro ?_ ?_); omega) | ((fail_if_success (with_reducible first | refine isHS ?_ | refine isRet ?_ | refine isCall ?_ | refine isNext ?_ | refine isNextP ?_ | refine isThen ?_ | refine isBlock ?_ | refine isOut ?_ | refine isOutN ?_)); (simp only [D.int, D.bool])))
    refine callW_peek (c_disk_restG _ _ (by omega)) (.cons .f (.cons .f .nil)) ?_ ?_
    · rintro _ _ ⟨rfl, rfl⟩
      exact ⟨.f .v, by simp⟩
    rintro _ _ ⟨rfl, rfl⟩
    repeat' (first | (with_reducible refine HS.seq ?_) | (with_reducible refine HS.opsK good (fun K hK => ?_)) | (with_reducible refine wpS_app (fun K hK => ?_)) | ((with_reducible refine hK _ ?_); clear hK K) | (with_reducible refine HS.drw good (fun K hK => ?_)) | ((with_reducible refine And.intro (Chk.mk' ?_) ?_); kernel_rfl) | (with_reducible refine HS.block ?_) | ((with_reducible refine HS.cond1 ?_ ?_); rfl) | ((with_reducible refine HS.cond0 ?_ ?_); rfl) | ((with_reducible apply HS.condB) <;> first | rfl | (with_reducible intro h)) | (with_reducible refine HS.exit ?_) | (with_reducible refine HS.ret ?_) | (with_reducible refine HS.skip ?_) | (with_reducible first | refine thenQ_n ?_ | refine blockQ_n ?_ | refine thenQ_r ?_ | refine blockQ_r ?_ | refine thenQ_x ?_ | refine blockQ_hit ?_ | refine endS_r ?_ | refine endS_n ?_) | ((with_reducible refine blockQ_miss ?_ ?_); rfl) | (with_reducible refine Two.mk' (fun h => ?_) (fun h => ?_) <;> try (exfalso; omega)) | ((with_reducible refine Bsel.mk' (fun h => ?_) (fun h => ?_)) <;> (try simp only [h])) | ((fail_if_success (with_reducible first | refine isHS ?_ | refine isRet ?_ | refine isCall ?_ | refine isNext ?_ | refine isNextP ?_ | refine isThen ?_ | refine isBlock ?_ | refine isOut ?_ | refine isOutN ?_)); simp (disch := omega) only [↓LD, LU, loadA_rf, wpS_nil, wpS_a, wpS_n, wpS_g, ↓Bsel_true, ↓Bsel_false, frm_get, frm_getD, frm_set, look_cons, look_nil, List.set_cons_succ, List.set_cons_zero, List.getElem?_cons_succ, List.getElem?_cons_zero, ↓bind'_some, ↓Two_true, ↓Two_false, List.length_cons, List.length_nil, List.cons_append, List.nil_append, List.map_cons, List.map_nil, List.take_succ_cons, List.take_zero, List.drop_succ_cons, List.drop_zero, Option.map_some, Option.map_none, ↓reduceIte, Nat.reduceAdd, Nat.reduceMul, Nat.reduceSub, Nat.reduceLeDiff, Nat.reduceLT, Nat.reduceEqDiff, Nat.add_zero, Nat.zero_add, Nat.mul_one, Int.toNat_natCast, Nat.mul_zero, Nat.zero_mul, true_and, and_true, reduceCtorEq, Int.reduceNeg, Int.reduceLT, Int.reduceLE, Int.reduceEq, Int.reduceToNat, wrap_in, List.getElem?_drop, List.getElem?_map, List.length_map, if_some, most_eq, set_map_b, app_map_i, getElem?_some_of, Int.natCast_nonneg, Bool.false_eq_true, decide_true, decide_false, Bool.not_true, Bool.not_false, and_self, eq_self, false_implies, or_self, Bool.and_self, false_or, or_false, Bool.false_and, Bool.true_beq, Bool.false_beq, List.append_nil, List.map_nil]) | ((with_reducible refine And.intro ?_ ?_); omega) | ((fail_if_success (with_reducible first | refine isHS ?_ | refine isRet ?_ | refine isCall ?_ | refine isNext ?_ | refine isNextP ?_ | refine isThen ?_ | refine isBlock ?_ | refine isOut ?_ | refine isOutN ?_)); (simp only [D.int, D.bool])))
    refine HS.loopG [0, 2, 6, 21, 22, 23] (fun _ : Unit => ⟨frm 87 [(0, .pt 0 0), (2, D.int cut), (6, D.int (restN done 1)), (21, .f (.v (.slice none 0 0))), (22, D.int 0), (23, D.int 0)], dkR e1 e2 0 ws fuse dead works, []⟩)
      (fun _ => True) (fun _ => 0) () (by kernel_rfl) trivial ?_
    rintro _ _
    repeat' (first | (with_reducible refine HS.seq ?_) | (with_reducible refine HS.opsK good (fun K hK => ?_)) | (with_reducible refine wpS_app (fun K hK => ?_)) | ((with_reducible refine hK _ ?_); clear hK K) | (with_reducible refine HS.drw good (fun K hK => ?_)) | ((with_reducible refine And.intro (Chk.mk' ?_) ?_); kernel_rfl) | (with_reducible refine HS.block ?_) | ((with_reducible refine HS.cond1 ?_ ?_); rfl) | ((with_reducible refine HS.cond0 ?_ ?_); rfl) | ((with_reducible apply HS.condB) <;> first | rfl | (with_reducible intro h)) | (with_reducible refine HS.exit ?_) | (with_reducible refine HS.ret ?_) | (with_reducible refine HS.skip ?_) | (with_reducible first | refine thenQ_n ?_ | refine blockQ_n ?_ | refine thenQ_r ?_ | refine blockQ_r ?_ | refine thenQ_x ?_ | refine blockQ_hit ?_ | refine endS_r ?_ | refine endS_n ?_) | ((with_reducible refine blockQ_miss ?_ ?_); rfl) | (with_reducible refine Two.mk' (fun h => ?_) (fun h => ?_) <;> try (exfalso; omega)) | ((with_reducible refine Bsel.mk' (fun h => ?_) (fun h => ?_)) <;> (try simp only [h])) | ((fail_if_success (with_reducible first | refine isHS ?_ | refine isRet ?_ | refine isCall ?_ | refine isNext ?_ | refine isNextP ?_ | refine isThen ?_ | refine isBlock ?_ | refine isOut ?_ | refine isOutN ?_)); simp (disch := omega) only [↓LD, LU, loadA_rf, wpS_nil, wpS_a, wpS_n, wpS_g, ↓Bsel_true, ↓Bsel_false, frm_get, frm_getD, frm_set, look_cons, look_nil, List.set_cons_succ, List.set_cons_zero, List.getElem?_cons_succ, List.getElem?_cons_zero, ↓bind'_some, ↓Two_true, ↓Two_false, List.length_cons, List.length_nil, List.cons_append, List.nil_append, List.map_cons, List.map_nil, List.take_succ_cons, List.take_zero, List.drop_succ_cons, List.drop_zero, Option.map_some, Option.map_none, ↓reduceIte, Nat.reduceAdd, Nat.reduceMul, Nat.reduceSub, Nat.reduceLeDiff, Nat.reduceLT, Nat.reduceEqDiff, Nat.add_zero, Nat.zero_add, Nat.mul_one, Int.toNat_natCast, Nat.mul_zero, Nat.zero_mul, true_and, and_true, reduceCtorEq, Int.reduceNeg, Int.reduceLT, Int.reduceLE, Int.reduceEq, Int.reduceToNat, wrap_in, List.getElem?_drop, List.getElem?_map, List.length_map, if_some, most_eq, set_map_b, app_map_i, getElem?_some_of, Int.natCast_nonneg, Bool.false_eq_true, decide_true, decide_false, Bool.not_true, Bool.not_false, and_self, eq_self, false_implies, or_self, Bool.and_self, false_or, or_false, Bool.false_and, Bool.true_beq, Bool.false_beq, dkR, dkB, dkP]) | ((with_reducible refine And.intro ?_ ?_); omega) | ((fail_if_success (with_reducible first | refine isHS ?_ | refine isRet ?_ | refine isCall ?_ | refine isNext ?_ | refine isNextP ?_ | refine isThen ?_ | refine isBlock ?_ | refine isOut ?_ | refine isOutN ?_)); (simp only [D.int, D.bool])))
    refine callW_emb (c_mapClone e1) [1] (by kernel_rfl) rfl rfl ?_
    rintro _ _ ⟨rfl, rfl⟩
    repeat' (first | (with_reducible refine HS.seq ?_) | (with_reducible refine HS.opsK good (fun K hK => ?_)) | (with_reducible refine wpS_app (fun K hK => ?_)) | ((with_reducible refine hK _ ?_); clear hK K) | (with_reducible refine HS.drw good (fun K hK => ?_)) | ((with_reducible refine And.intro (Chk.mk' ?_) ?_); kernel_rfl) | (with_reducible refine HS.block ?_) | ((with_reducible refine HS.cond1 ?_ ?_); rfl) | ((with_reducible refine HS.cond0 ?_ ?_); rfl) | ((with_reducible apply HS.condB) <;> first | rfl | (with_reducible intro h)) | (with_reducible refine HS.exit ?_) | (with_reducible refine HS.ret ?_) | (with_reducible refine HS.skip ?_) | (with_reducible first | refine thenQ_n ?_ | refine blockQ_n ?_ | refine thenQ_r ?_ | refine blockQ_r ?_ | refine thenQ_x ?_ | refine blockQ_hit ?_ | refine endS_r ?_ | refine endS_n ?_) | ((with_reducible refine blockQ_miss ?_ ?_); rfl) | (with_reducible refine Two.mk' (fun h => ?_) (fun h => ?_) <;> try (exfalso; omega)) | ((with_reducible refine Bsel.mk' (fun h => ?_) (fun h => ?_)) <;> (try simp only [h])) | ((fail_if_success (with_reducible first | refine isHS ?_ | refine isRet ?_ | refine isCall ?_ | refine isNext ?_ | refine isNextP ?_ | refine isThen ?_ | refine isBlock ?_ | refine isOut ?_ | refine isOutN ?_)); simp (disch := omega) only [↓LD, LU, loadA_rf, wpS_nil, wpS_a, wpS_n, wpS_g, ↓Bsel_true, ↓Bsel_false, frm_get, frm_getD, frm_set, look_cons, look_nil, List.set_cons_succ, List.set_cons_zero, List.getElem?_cons_succ, List.getElem?_cons_zero, ↓bind'_some, ↓Two_true, ↓Two_false, List.length_cons, List.length_nil, List.cons_append, List.nil_append, List.map_cons, List.map_nil, List.take_succ_cons, List.take_zero, List.drop_succ_cons, List.drop_zero, Option.map_some, Option.map_none, ↓reduceIte, Nat.reduceAdd, Nat.reduceMul, Nat.reduceSub, Nat.reduceLeDiff, Nat.reduceLT, Nat.reduceEqDiff, Nat.add_zero, Nat.zero_add, Nat.mul_one, Int.toNat_natCast, Nat.mul_zero, Nat.zero_mul, true_and, and_true, reduceCtorEq, Int.reduceNeg, Int.reduceLT, Int.reduceLE, Int.reduceEq, Int.reduceToNat, wrap_in, List.getElem?_drop, List.getElem?_map, List.length_map, if_some, most_eq, set_map_b, app_map_i, getElem?_some_of, Int.natCast_nonneg, Bool.false_eq_true, decide_true, decide_false, Bool.not_true, Bool.not_false, and_self, eq_self, false_implies, or_self, Bool.and_self, false_or, or_false, Bool.false_and, Bool.true_beq, Bool.false_beq]) | ((with_reducible refine And.intro ?_ ?_); omega) | ((fail_if_success (with_reducible first | refine isHS ?_ | refine isRet ?_ | refine isCall ?_ | refine isNext ?_ | refine isNextP ?_ | refine isThen ?_ | refine isBlock ?_ | refine isOut ?_ | refine isOutN ?_)); (simp only [D.int, D.bool])))
    exact end0 ⟨rfl, rfl⟩
  · repeat' (first | (with_reducible refine HS.seq ?_) | (with_reducible refine HS.opsK good (fun K hK => ?_)) | (with_reducible refine wpS_app (fun K hK => ?_)) | ((with_reducible refine hK _ ?_); clear hK K) | (with_reducible refine HS.drw good (fun K hK => ?_)) | ((with_reducible refine And.intro (Chk.mk' ?_) ?_); kernel_rfl) | (with_reducible refine HS.block ?_) | ((with_reducible refine HS.cond1 ?_ ?_); rfl) | ((with_reducible refine HS.cond0 ?_ ?_); rfl) | ((with_reducible apply HS.condB) <;> first | rfl | (with_reducible intro h)) | (with_reducible refine HS.exit ?_) | (with_reducible refine HS.ret ?_) | (with_reducible refine HS.skip ?_) | (with_reducible first | refine thenQ_n ?_ | refine blockQ_n ?_ | refine thenQ_r ?_ | refine blockQ_r ?_ | refine thenQ_x ?_ | refine blockQ_hit ?_ | refine endS_r ?_ | refine endS_n ?_) | ((with_reducible refine blockQ_miss ?_ ?_); rfl) | (with_reducible refine Two.mk' (fun h => ?_) (fun h => ?_) <;> try (exfalso; omega)) | ((with_reducible refine Bsel.mk' (fun h => ?_) (fun h => ?_)) <;> (try simp only [h])) | ((fail_if_success (with_reducible first | refine isHS ?_ | refine isRet ?_ | refine isCall ?_ | refine isNext ?_ | refine isNextP ?_ | refine isThen ?_ | refine isBlock ?_ | refine isOut ?_ | refine isOutN ?_)); simp (disch := omega) only [↓LD, LU, loadA_rf, wpS_nil, wpS_a, wpS_n, wpS_g, ↓Bsel_true, ↓Bsel_false, frm_get, frm_getD, frm_set, look_cons, look_nil, List.set_cons_succ, List.set_cons_zero, List.getElem?_cons_succ, List.getElem?_cons_zero, ↓bind'_some, ↓Two_true, ↓Two_false, List.length_cons, List.length_nil, List.cons_append, List.nil_append, List.map_cons, List.map_nil, List.take_succ_cons, List.take_zero, List.drop_succ_cons, List.drop_zero, Option.map_some, Option.map_none, ↓reduceIte, Nat.reduceAdd, Nat.reduceMul, Nat.reduceSub, Nat.reduceLeDiff, Nat.reduceLT, Nat.reduceEqDiff, Nat.add_zero, Nat.zero_add, Nat.mul_one, Int.toNat_natCast, Nat.mul_zero, Nat.zero_mul, true_and, and_true, reduceCtorEq, Int.reduceNeg, Int.reduceLT, Int.reduceLE, Int.reduceEq, Int.reduceToNat, wrap_in, List.getElem?_drop, List.getElem?_map, List.length_map, if_some, most_eq, set_map_b, app_map_i, getElem?_some_of, Int.natCast_nonneg, Bool.false_eq_true, decide_true, decide_false, Bool.not_true, Bool.not_false, and_self, eq_self, false_implies, or_self, Bool.and_self, false_or, or_false, Bool.false_and, Bool.true_beq, Bool.false_beq, dkR, dkB, dkP]) | ((with_reducible refine And.intro ?_ ?_); omega) | ((fail_if_success (with_reducible first | refine isHS ?_ | refine isRet ?_ | refine isCall ?_ | refine isNext ?_ | refine isNextP ?_ | refine isThen ?_ | refine isBlock ?_ | refine isOut ?_ | refine isOutN ?_)); (simp only [D.int, D.bool])))
    refine callW_peek (c_disk_restG _ _ (by omega)) (.cons .f (.cons .f .nil)) ?_ ?_
    · rintro _ _ ⟨rfl, rfl⟩
      exact ⟨.f .v, by simp⟩
    rintro _ _ ⟨rfl, rfl⟩
    have hk := restN_in (x := done) (m := (n + 1 + 1 : Nat)) (by omega)
    obtain ⟨k, hkd⟩ : ∃ k, restN done (n + 1 + 1 : Nat) = k := ⟨_, rfl⟩
    rw [hkd] at hok hk
    have hkd' : restN done ((n + 1 : Nat) + 1) = k := hkd
    rw [hkd']
    repeat' (first | (with_reducible refine HS.seq ?_) | (with_reducible refine HS.opsK good (fun K hK => ?_)) | (with_reducible refine wpS_app (fun K hK => ?_)) | ((with_reducible refine hK _ ?_); clear hK K) | (with_reducible refine HS.drw good (fun K hK => ?_)) | ((with_reducible refine And.intro (Chk.mk' ?_) ?_); kernel_rfl) | (with_reducible refine HS.block ?_) | ((with_reducible refine HS.cond1 ?_ ?_); rfl) | ((with_reducible refine HS.cond0 ?_ ?_); rfl) | ((with_reducible apply HS.condB) <;> first | rfl | (with_reducible intro h)) | (with_reducible refine HS.exit ?_) | (with_reducible refine HS.ret ?_) | (with_reducible refine HS.skip ?_) | (with_reducible first | refine thenQ_n ?_ | refine blockQ_n ?_ | refine thenQ_r ?_ | refine blockQ_r ?_ | refine thenQ_x ?_ | refine blockQ_hit ?_ | refine endS_r ?_ | refine endS_n ?_) | ((with_reducible refine blockQ_miss ?_ ?_); rfl) | (with_reducible refine Two.mk' (fun h => ?_) (fun h => ?_) <;> try (exfalso; omega)) | ((with_reducible refine Bsel.mk' (fun h => ?_) (fun h => ?_)) <;> (try simp only [h])) | ((fail_if_success (with_reducible first | refine isHS ?_ | refine isRet ?_ | refine isCall ?_ | refine isNext ?_ | refine isNextP ?_ | refine isThen ?_ | refine isBlock ?_ | refine isOut ?_ | refine isOutN ?_)); simp (disch := omega) only [↓LD, LU, loadA_rf, wpS_nil, wpS_a, wpS_n, wpS_g, ↓Bsel_true, ↓Bsel_false, frm_get, frm_getD, frm_set, look_cons, look_nil, List.set_cons_succ, List.set_cons_zero, List.getElem?_cons_succ, List.getElem?_cons_zero, ↓bind'_some, ↓Two_true, ↓Two_false, List.length_cons, List.length_nil, List.cons_append, List.nil_append, List.map_cons, List.map_nil, List.take_succ_cons, List.take_zero, List.drop_succ_cons, List.drop_zero, Option.map_some, Option.map_none, ↓reduceIte, Nat.reduceAdd, Nat.reduceMul, Nat.reduceSub, Nat.reduceLeDiff, Nat.reduceLT, Nat.reduceEqDiff, Nat.add_zero, Nat.zero_add, Nat.mul_one, Int.toNat_natCast, Nat.mul_zero, Nat.zero_mul, true_and, and_true, reduceCtorEq, Int.reduceNeg, Int.reduceLT, Int.reduceLE, Int.reduceEq, Int.reduceToNat, wrap_in, List.getElem?_drop, List.getElem?_map, List.length_map, if_some, most_eq, set_map_b, app_map_i, getElem?_some_of, Int.natCast_nonneg, Bool.false_eq_true, decide_true, decide_false, Bool.not_true, Bool.not_false, and_self, eq_self, false_implies, or_self, Bool.and_self, false_or, or_false, Bool.false_and, Bool.true_beq, Bool.false_beq, List.append_nil, List.map_nil]) | ((with_reducible refine And.intro ?_ ?_); omega) | ((fail_if_success (with_reducible first | refine isHS ?_ | refine isRet ?_ | refine isCall ?_ | refine isNext ?_ | refine isNextP ?_ | refine isThen ?_ | refine isBlock ?_ | refine isOut ?_ | refine isOutN ?_)); (simp only [D.int, D.bool])))
    refine HS.loopG [0, 2, 6, 21, 22, 23] (fun i : Nat => ⟨frm 87 [(0, .pt 0 0), (2, D.int cut), (6, D.int k), (21, .sl 3 0 (n + 1)), (22, D.int (n + 1 : Nat)), (23, D.int i)], dkR (crF e1 ws k cut i) e2 (n + 1) ws fuse dead works, []⟩)
      (fun i => i ≤ n + 1) (fun i => n + 1 - i) 0 (by kernel_rfl) (Nat.zero_le _) ?_
    rintro i hi
    have hfl : (ws.flatMap Wk.cs).length = (n + 1) * 2 := by rw [flat_len' Wk.cs_len, hn]
    have hwi : i < ws.length → (gt ws i).b.length ≤ 140737488355328 := fun h => hws _ (by rw [gt_eq h]; exact List.getElem_mem h)
    repeat' (first | (with_reducible refine HS.seq ?_) | (with_reducible refine HS.opsK good (fun K hK => ?_)) | (with_reducible refine wpS_app (fun K hK => ?_)) | ((with_reducible refine hK _ ?_); clear hK K) | (with_reducible refine HS.drw good (fun K hK => ?_)) | ((with_reducible refine And.intro (Chk.mk' ?_) ?_); kernel_rfl) | (with_reducible refine HS.block ?_) | ((with_reducible refine HS.cond1 ?_ ?_); rfl) | ((with_reducible refine HS.cond0 ?_ ?_); rfl) | ((with_reducible apply HS.condB) <;> first | rfl | (with_reducible intro h)) | (with_reducible refine HS.exit ?_) | (with_reducible refine HS.ret ?_) | (with_reducible refine HS.skip ?_) | (with_reducible first | refine thenQ_n ?_ | refine blockQ_n ?_ | refine thenQ_r ?_ | refine blockQ_r ?_ | refine thenQ_x ?_ | refine blockQ_hit ?_ | refine endS_r ?_ | refine endS_n ?_) | ((with_reducible refine blockQ_miss ?_ ?_); rfl) | (with_reducible refine Two.mk' (fun h => ?_) (fun h => ?_) <;> try (exfalso; omega)) | ((with_reducible refine Bsel.mk' (fun h => ?_) (fun h => ?_)) <;> (try simp only [h])) | ((fail_if_success (with_reducible first | refine isHS ?_ | refine isRet ?_ | refine isCall ?_ | refine isNext ?_ | refine isNextP ?_ | refine isThen ?_ | refine isBlock ?_ | refine isOut ?_ | refine isOutN ?_)); simp (disch := omega) only [↓LD, LU, loadA_rf, wpS_nil, wpS_a, wpS_n, wpS_g, ↓Bsel_true, ↓Bsel_false, frm_get, frm_getD, frm_set, look_cons, look_nil, List.set_cons_succ, List.set_cons_zero, List.getElem?_cons_succ, List.getElem?_cons_zero, ↓bind'_some, ↓Two_true, ↓Two_false, List.length_cons, List.length_nil, List.cons_append, List.nil_append, List.map_cons, List.map_nil, List.take_succ_cons, List.take_zero, List.drop_succ_cons, List.drop_zero, Option.map_some, Option.map_none, ↓reduceIte, Nat.reduceAdd, Nat.reduceMul, Nat.reduceSub, Nat.reduceLeDiff, Nat.reduceLT, Nat.reduceEqDiff, Nat.add_zero, Nat.zero_add, Nat.mul_one, Int.toNat_natCast, Nat.mul_zero, Nat.zero_mul, true_and, and_true, reduceCtorEq, Int.reduceNeg, Int.reduceLT, Int.reduceLE, Int.reduceEq, Int.reduceToNat, wrap_in, List.getElem?_drop, List.getElem?_map, List.length_map, if_some, most_eq, set_map_b, app_map_i, getElem?_some_of, Int.natCast_nonneg, Bool.false_eq_true, decide_true, decide_false, Bool.not_true, Bool.not_false, and_self, eq_self, false_implies, or_self, Bool.and_self, false_or, or_false, Bool.false_and, Bool.true_beq, Bool.false_beq, dkR, dkB, dkP, hfl, wk_take, fY]) | ((with_reducible refine And.intro ?_ ?_); omega) | ((fail_if_success (with_reducible first | refine isHS ?_ | refine isRet ?_ | refine isCall ?_ | refine isNext ?_ | refine isNextP ?_ | refine isThen ?_ | refine isBlock ?_ | refine isOut ?_ | refine isOutN ?_)); (simp only [D.int, D.bool])))
    · have hi' : i < n + 1 := by omega
      obtain ⟨hB, hr⟩ := hok i hi'
      have hs : crF e1 ws k cut (i + 1) = fDo (crF e1 ws k cut i) (gt ws i).k (gt ws i).b := by
        rw [crF, stepC, if_pos h]
      refine callDr_emb (c_disk_doG (crF e1 ws k cut i) B hB (gt ws i).k (gt ws i).b hr) [1] (by kernel_rfl) rfl rfl ?_
      repeat' (first | (with_reducible refine HS.seq ?_) | (with_reducible refine HS.opsK good (fun K hK => ?_)) | (with_reducible refine wpS_app (fun K hK => ?_)) | ((with_reducible refine hK _ ?_); clear hK K) | (with_reducible refine HS.drw good (fun K hK => ?_)) | ((with_reducible refine And.intro (Chk.mk' ?_) ?_); kernel_rfl) | (with_reducible refine HS.block ?_) | ((with_reducible refine HS.cond1 ?_ ?_); rfl) | ((with_reducible refine HS.cond0 ?_ ?_); rfl) | ((with_reducible apply HS.condB) <;> first | rfl | (with_reducible intro h)) | (with_reducible refine HS.exit ?_) | (with_reducible refine HS.ret ?_) | (with_reducible refine HS.skip ?_) | (with_reducible first | refine thenQ_n ?_ | refine blockQ_n ?_ | refine thenQ_r ?_ | refine blockQ_r ?_ | refine thenQ_x ?_ | refine blockQ_hit ?_ | refine endS_r ?_ | refine endS_n ?_) | ((with_reducible refine blockQ_miss ?_ ?_); rfl) | (with_reducible refine Two.mk' (fun h => ?_) (fun h => ?_) <;> try (exfalso; omega)) | ((with_reducible refine Bsel.mk' (fun h => ?_) (fun h => ?_)) <;> (try simp only [h])) | ((fail_if_success (with_reducible first | refine isHS ?_ | refine isRet ?_ | refine isCall ?_ | refine isNext ?_ | refine isNextP ?_ | refine isThen ?_ | refine isBlock ?_ | refine isOut ?_ | refine isOutN ?_)); simp (disch := omega) only [↓LD, LU, loadA_rf, wpS_nil, wpS_a, wpS_n, wpS_g, ↓Bsel_true, ↓Bsel_false, frm_get, frm_getD, frm_set, look_cons, look_nil, List.set_cons_succ, List.set_cons_zero, List.getElem?_cons_succ, List.getElem?_cons_zero, ↓bind'_some, ↓Two_true, ↓Two_false, List.length_cons, List.length_nil, List.cons_append, List.nil_append, List.map_cons, List.map_nil, List.take_succ_cons, List.take_zero, List.drop_succ_cons, List.drop_zero, Option.map_some, Option.map_none, ↓reduceIte, Nat.reduceAdd, Nat.reduceMul, Nat.reduceSub, Nat.reduceLeDiff, Nat.reduceLT, Nat.reduceEqDiff, Nat.add_zero, Nat.zero_add, Nat.mul_one, Int.toNat_natCast, Nat.mul_zero, Nat.zero_mul, true_and, and_true, reduceCtorEq, Int.reduceNeg, Int.reduceLT, Int.reduceLE, Int.reduceEq, Int.reduceToNat, wrap_in, List.getElem?_drop, List.getElem?_map, List.length_map, if_some, most_eq, set_map_b, app_map_i, getElem?_some_of, Int.natCast_nonneg, Bool.false_eq_true, decide_true, decide_false, Bool.not_true, Bool.not_false, and_self, eq_self, false_implies, or_self, Bool.and_self, false_or, or_false, Bool.false_and, Bool.true_beq, Bool.false_beq]) | ((with_reducible refine And.intro ?_ ?_); omega) | ((fail_if_success (with_reducible first | refine isHS ?_ | refine isRet ?_ | refine isCall ?_ | refine isNext ?_ | refine isNextP ?_ | refine isThen ?_ | refine isBlock ?_ | refine isOut ?_ | refine isOutN ?_)); (simp only [D.int, D.bool])))
      exact Next.mk (i + 1) (by simp only [hs]; kernel_rfl) (by omega) (by omega)
    · have hi' : i < n + 1 := by omega
      obtain ⟨hB, hr⟩ := hok i hi'
      have hwi' := hwi (by omega)
      have hq := restN_in (x := cut) (m := ((gt ws i).b.length + 1 : Nat)) (by omega)
      have hq' : restN cut (((gt ws i).b.length : Int) + 1) = restN cut ((gt ws i).b.length + 1 : Nat) := rfl
      obtain ⟨q, hqd⟩ : ∃ q, restN cut ((gt ws i).b.length + 1 : Nat) = q := ⟨_, rfl⟩
      rw [hqd] at hq hq'
      refine callDr_peek (c_disk_restG cut _ (by omega)) (.cons .f (.cons .f .nil)) ⟨.f .v, by simp⟩ ?_
      rw [hq']
      obtain ⟨p, hp⟩ : ∃ p, (gt ws i).b.take q.toNat = p := ⟨_, rfl⟩
      have hq2 : q.toNat = p.length := by rw [← hp, List.length_take]; omega
      have hp2 : (gt ws i).b.take p.length = p := by rw [← hq2]; exact hp
      have hpl : p.length ≤ (gt ws i).b.length := by rw [← hp, List.length_take]; omega
      have hs0 : crF e1 ws k cut (i + 1) = if p ≠ [] then fDo (crF e1 ws k cut i) (gt ws i).k p else crF e1 ws k cut i := by
        have hb : (gt ws i).b ≠ [] := by
          intro e
          rw [e] at h
          simp at h
        rw [crF, stepC, if_neg (by omega), hqd, hp]
        by_cases hpn : p = []
        · rw [if_neg (fun h => h.2.2 hpn), if_neg (fun h => h hpn)]
        · rw [if_pos ⟨by omega, hb, hpn⟩, if_pos hpn]
      repeat' (first | (with_reducible refine HS.seq ?_) | (with_reducible refine HS.opsK good (fun K hK => ?_)) | (with_reducible refine wpS_app (fun K hK => ?_)) | ((with_reducible refine hK _ ?_); clear hK K) | (with_reducible refine HS.drw good (fun K hK => ?_)) | ((with_reducible refine And.intro (Chk.mk' ?_) ?_); kernel_rfl) | (with_reducible refine HS.block ?_) | ((with_reducible refine HS.cond1 ?_ ?_); rfl) | ((with_reducible refine HS.cond0 ?_ ?_); rfl) | ((with_reducible apply HS.condB) <;> first | rfl | (with_reducible intro h)) | (with_reducible refine HS.exit ?_) | (with_reducible refine HS.ret ?_) | (with_reducible refine HS.skip ?_) | (with_reducible first | refine thenQ_n ?_ | refine blockQ_n ?_ | refine thenQ_r ?_ | refine blockQ_r ?_ | refine thenQ_x ?_ | refine blockQ_hit ?_ | refine endS_r ?_ | refine endS_n ?_) | ((with_reducible refine blockQ_miss ?_ ?_); rfl) | (with_reducible refine Two.mk' (fun h => ?_) (fun h => ?_) <;> try (exfalso; omega)) | ((with_reducible refine Bsel.mk' (fun h => ?_) (fun h => ?_)) <;> (try simp only [h])) | ((fail_if_success (with_reducible first | refine isHS ?_ | refine isRet ?_ | refine isCall ?_ | refine isNext ?_ | refine isNextP ?_ | refine isThen ?_ | refine isBlock ?_ | refine isOut ?_ | refine isOutN ?_)); simp (disch := omega) only [↓LD, LU, loadA_rf, wpS_nil, wpS_a, wpS_n, wpS_g, ↓Bsel_true, ↓Bsel_false, frm_get, frm_getD, frm_set, look_cons, look_nil, List.set_cons_succ, List.set_cons_zero, List.getElem?_cons_succ, List.getElem?_cons_zero, ↓bind'_some, ↓Two_true, ↓Two_false, List.length_cons, List.length_nil, List.cons_append, List.nil_append, List.map_cons, List.map_nil, List.take_succ_cons, List.take_zero, List.drop_succ_cons, List.drop_zero, Option.map_some, Option.map_none, ↓reduceIte, Nat.reduceAdd, Nat.reduceMul, Nat.reduceSub, Nat.reduceLeDiff, Nat.reduceLT, Nat.reduceEqDiff, Nat.add_zero, Nat.zero_add, Nat.mul_one, Int.toNat_natCast, Nat.mul_zero, Nat.zero_mul, true_and, and_true, reduceCtorEq, Int.reduceNeg, Int.reduceLT, Int.reduceLE, Int.reduceEq, Int.reduceToNat, wrap_in, List.getElem?_drop, List.getElem?_map, List.length_map, if_some, most_eq, set_map_b, app_map_i, getElem?_some_of, Int.natCast_nonneg, Bool.false_eq_true, decide_true, decide_false, Bool.not_true, Bool.not_false, and_self, eq_self, false_implies, or_self, Bool.and_self, false_or, or_false, Bool.false_and, Bool.true_beq, Bool.false_beq, List.append_nil, List.map_nil, D.int, Nat.sub_zero, take_uF, hq2, hp2]) | ((with_reducible refine And.intro ?_ ?_); omega) | ((fail_if_success (with_reducible first | refine isHS ?_ | refine isRet ?_ | refine isCall ?_ | refine isNext ?_ | refine isNextP ?_ | refine isThen ?_ | refine isBlock ?_ | refine isOut ?_ | refine isOutN ?_)); (simp only [D.int, D.bool])))
      · have hs : crF e1 ws k cut (i + 1) = fDo (crF e1 ws k cut i) (gt ws i).k p := by
          rw [hs0, if_pos]
          rintro rfl
          simp at h
        refine callDr_emb (c_disk_doG (crF e1 ws k cut i) B hB (gt ws i).k p (by omega)) [1] (by kernel_rfl) rfl rfl ?_
        repeat' (first | (with_reducible refine HS.seq ?_) | (with_reducible refine HS.opsK good (fun K hK => ?_)) | (with_reducible refine wpS_app (fun K hK => ?_)) | ((with_reducible refine hK _ ?_); clear hK K) | (with_reducible refine HS.drw good (fun K hK => ?_)) | ((with_reducible refine And.intro (Chk.mk' ?_) ?_); kernel_rfl) | (with_reducible refine HS.block ?_) | ((with_reducible refine HS.cond1 ?_ ?_); rfl) | ((with_reducible refine HS.cond0 ?_ ?_); rfl) | ((with_reducible apply HS.condB) <;> first | rfl | (with_reducible intro h)) | (with_reducible refine HS.exit ?_) | (with_reducible refine HS.ret ?_) | (with_reducible refine HS.skip ?_) | (with_reducible first | refine thenQ_n ?_ | refine blockQ_n ?_ | refine thenQ_r ?_ | refine blockQ_r ?_ | refine thenQ_x ?_ | refine blockQ_hit ?_ | refine endS_r ?_ | refine endS_n ?_) | ((with_reducible refine blockQ_miss ?_ ?_); rfl) | (with_reducible refine Two.mk' (fun h => ?_) (fun h => ?_) <;> try (exfalso; omega)) | ((with_reducible refine Bsel.mk' (fun h => ?_) (fun h => ?_)) <;> (try simp only [h])) | ((fail_if_success (with_reducible first | refine isHS ?_ | refine isRet ?_ | refine isCall ?_ | refine isNext ?_ | refine isNextP ?_ | refine isThen ?_ | refine isBlock ?_ | refine isOut ?_ | refine isOutN ?_)); simp (disch := omega) only [↓LD, LU, loadA_rf, wpS_nil, wpS_a, wpS_n, wpS_g, ↓Bsel_true, ↓Bsel_false, frm_get, frm_getD, frm_set, look_cons, look_nil, List.set_cons_succ, List.set_cons_zero, List.getElem?_cons_succ, List.getElem?_cons_zero, ↓bind'_some, ↓Two_true, ↓Two_false, List.length_cons, List.length_nil, List.cons_append, List.nil_append, List.map_cons, List.map_nil, List.take_succ_cons, List.take_zero, List.drop_succ_cons, List.drop_zero, Option.map_some, Option.map_none, ↓reduceIte, Nat.reduceAdd, Nat.reduceMul, Nat.reduceSub, Nat.reduceLeDiff, Nat.reduceLT, Nat.reduceEqDiff, Nat.add_zero, Nat.zero_add, Nat.mul_one, Int.toNat_natCast, Nat.mul_zero, Nat.zero_mul, true_and, and_true, reduceCtorEq, Int.reduceNeg, Int.reduceLT, Int.reduceLE, Int.reduceEq, Int.reduceToNat, wrap_in, List.getElem?_drop, List.getElem?_map, List.length_map, if_some, most_eq, set_map_b, app_map_i, getElem?_some_of, Int.natCast_nonneg, Bool.false_eq_true, decide_true, decide_false, Bool.not_true, Bool.not_false, and_self, eq_self, false_implies, or_self, Bool.and_self, false_or, or_false, Bool.false_and, Bool.true_beq, Bool.false_beq]) | ((with_reducible refine And.intro ?_ ?_); omega) | ((fail_if_success (with_reducible first | refine isHS ?_ | refine isRet ?_ | refine isCall ?_ | refine isNext ?_ | refine isNextP ?_ | refine isThen ?_ | refine isBlock ?_ | refine isOut ?_ | refine isOutN ?_)); (simp only [D.int, D.bool])))
        exact Next.mk (i + 1) (by simp only [hs]; kernel_rfl) (by omega) (by omega)
      · have hs : crF e1 ws k cut (i + 1) = crF e1 ws k cut i := by
          rw [hs0, if_neg]
          intro h'
          exact h' (List.eq_nil_of_length_eq_zero (by omega))
        exact Next.mk (i + 1) (by simp only [hs]; kernel_rfl) (by omega) (by omega)
    · have hs : crF e1 ws k cut (i + 1) = crF e1 ws k cut i := by
        rw [crF, stepC, if_neg (by omega), if_neg]
        rintro ⟨_, h1, _⟩
        exact h1 (List.eq_nil_of_length_eq_zero (by omega))
      exact Next.mk (i + 1) (by simp only [hs]; kernel_rfl) (by omega) (by omega)
    · have hs : crF e1 ws k cut (i + 1) = crF e1 ws k cut i := by
        rw [crF, stepC, if_neg (by omega), if_neg (by omega)]
      exact Next.mk (i + 1) (by simp only [hs]; kernel_rfl) (by omega) (by omega)
    · have hin : i = n + 1 := by omega
      subst hin
      refine callW_emb (c_mapClone (crF e1 ws k cut (n + 1))) [1] (by kernel_rfl) rfl rfl ?_
      rintro _ _ ⟨rfl, rfl⟩
      repeat' (first | (with_reducible refine HS.seq ?_) | (with_reducible refine HS.opsK good (fun K hK => ?_)) | (with_reducible refine wpS_app (fun K hK => ?_)) | ((with_reducible refine hK _ ?_); clear hK K) | (with_reducible refine HS.drw good (fun K hK => ?_)) | ((with_reducible refine And.intro (Chk.mk' ?_) ?_); kernel_rfl) | (with_reducible refine HS.block ?_) | ((with_reducible refine HS.cond1 ?_ ?_); rfl) | ((with_reducible refine HS.cond0 ?_ ?_); rfl) | ((with_reducible apply HS.condB) <;> first | rfl | (with_reducible intro h)) | (with_reducible refine HS.exit ?_) | (with_reducible refine HS.ret ?_) | (with_reducible refine HS.skip ?_) | (with_reducible first | refine thenQ_n ?_ | refine blockQ_n ?_ | refine thenQ_r ?_ | refine blockQ_r ?_ | refine thenQ_x ?_ | refine blockQ_hit ?_ | refine endS_r ?_ | refine endS_n ?_) | ((with_reducible refine blockQ_miss ?_ ?_); rfl) | (with_reducible refine Two.mk' (fun h => ?_) (fun h => ?_) <;> try (exfalso; omega)) | ((with_reducible refine Bsel.mk' (fun h => ?_) (fun h => ?_)) <;> (try simp only [h])) | ((fail_if_success (with_reducible first | refine isHS ?_ | refine isRet ?_ | refine isCall ?_ | refine isNext ?_ | refine isNextP ?_ | refine isThen ?_ | refine isBlock ?_ | refine isOut ?_ | refine isOutN ?_)); simp (disch := omega) only [↓LD, LU, loadA_rf, wpS_nil, wpS_a, wpS_n, wpS_g, ↓Bsel_true, ↓Bsel_false, frm_get, frm_getD, frm_set, look_cons, look_nil, List.set_cons_succ, List.set_cons_zero, List.getElem?_cons_succ, List.getElem?_cons_zero, ↓bind'_some, ↓Two_true, ↓Two_false, List.length_cons, List.length_nil, List.cons_append, List.nil_append, List.map_cons, List.map_nil, List.take_succ_cons, List.take_zero, List.drop_succ_cons, List.drop_zero, Option.map_some, Option.map_none, ↓reduceIte, Nat.reduceAdd, Nat.reduceMul, Nat.reduceSub, Nat.reduceLeDiff, Nat.reduceLT, Nat.reduceEqDiff, Nat.add_zero, Nat.zero_add, Nat.mul_one, Int.toNat_natCast, Nat.mul_zero, Nat.zero_mul, true_and, and_true, reduceCtorEq, Int.reduceNeg, Int.reduceLT, Int.reduceLE, Int.reduceEq, Int.reduceToNat, wrap_in, List.getElem?_drop, List.getElem?_map, List.length_map, if_some, most_eq, set_map_b, app_map_i, getElem?_some_of, Int.natCast_nonneg, Bool.false_eq_true, decide_true, decide_false, Bool.not_true, Bool.not_false, and_self, eq_self, false_implies, or_self, Bool.and_self, false_or, or_false, Bool.false_and, Bool.true_beq, Bool.false_beq]) | ((with_reducible refine And.intro ?_ ?_); omega) | ((fail_if_success (with_reducible first | refine isHS ?_ | refine isRet ?_ | refine isCall ?_ | refine isNext ?_ | refine isNextP ?_ | refine isThen ?_ | refine isBlock ?_ | refine isOut ?_ | refine isOutN ?_)); (simp only [D.int, D.bool])))
      exact end0 ⟨rfl, by rw [← hkd]; rfl⟩
end Go.Proofs.Ytjbkckhpoicaeaa.Mir

/- The program's disk: Read; what files hold. -/
namespace Go.Proofs.Ytjbkckhpoicaeaa.Mir
open Go Go.RowKit
set_option linter.unusedVariables false
set_option linter.unusedSimpArgs false
set_option maxHeartbeats 2000000

set_option maxRecDepth 100000 in
theorem c_disk_Read (e1 e2 : Fs) (n : Nat) (ws : List Wk) (fuse : Int) (dead : Bool) (works : Int) (B : Nat) (he : FsOk e2 B) (hB : B ≤ 140737488355328) (k : Int) :
    Con Try.prog 20 [.pt 0 0, D.int k] (dkR e1 e2 n ws fuse dead works) fun r H' => r = (if dead = true then .f (.v (.slice none 0 0)) else orN (fGet e2 k)) ∧ H' = dkR e1 e2 n ws fuse dead works := by
  refine Con.walk good fn_disk_Read (by simp) ?_
  unfold s_disk_Read
  simp only [argsE, List.length_cons, List.length_nil, Nat.reduceAdd]
  rcases n with _ | n
  · cases dead
    · cases hg : fGet e2 k with
      | none =>
        repeat' (first | (with_reducible refine HS.seq ?_) | (with_reducible refine HS.opsK good (fun K hK => ?_)) | (with_reducible refine wpS_app (fun K hK => ?_)) | ((with_reducible refine hK _ ?_); clear hK K) | (with_reducible refine HS.drw good (fun K hK => ?_)) | ((with_reducible refine And.intro (Chk.mk' ?_) ?_); kernel_rfl) | (with_reducible refine HS.block ?_) | ((with_reducible refine HS.cond1 ?_ ?_); rfl) | ((with_reducible refine HS.cond0 ?_ ?_); rfl) | ((with_reducible apply HS.condB) <;> first | rfl | (with_reducible intro h)) | (with_reducible refine HS.exit ?_) | (with_reducible refine HS.ret ?_) | (with_reducible refine HS.skip ?_) | (with_reducible first | refine thenQ_n ?_ | refine blockQ_n ?_ | refine thenQ_r ?_ | refine blockQ_r ?_ | refine thenQ_x ?_ | refine blockQ_hit ?_ | refine endS_r ?_ | refine endS_n ?_) | ((with_reducible refine blockQ_miss ?_ ?_); rfl) | (with_reducible refine Two.mk' (fun h => ?_) (fun h => ?_) <;> try (exfalso; omega)) | ((with_reducible refine Bsel.mk' (fun h => ?_) (fun h => ?_)) <;> (try simp only [h])) | ((fail_if_success (with_reducible first | refine isHS ?_ | refine isRet ?_ | refine isCall ?_ | refine isNext ?_ | refine isNextP ?_ | refine isThen ?_ | refine isBlock ?_ | refine isOut ?_ | refine isOutN ?_)); simp (disch := omega) only [↓LD, LU, loadA_rf, wpS_nil, wpS_a, wpS_n, wpS_g, ↓Bsel_true, ↓Bsel_false, frm_get, frm_getD, frm_set, look_cons, look_nil, List.set_cons_succ, List.set_cons_zero, List.getElem?_cons_succ, List.getElem?_cons_zero, ↓bind'_some, ↓Two_true, ↓Two_false, List.length_cons, List.length_nil, List.cons_append, List.nil_append, List.map_cons, List.map_nil, List.take_succ_cons, List.take_zero, List.drop_succ_cons, List.drop_zero, Option.map_some, Option.map_none, ↓reduceIte, Nat.reduceAdd, Nat.reduceMul, Nat.reduceSub, Nat.reduceLeDiff, Nat.reduceLT, Nat.reduceEqDiff, Nat.add_zero, Nat.zero_add, Nat.mul_one, Int.toNat_natCast, Nat.mul_zero, Nat.zero_mul, true_and, and_true, reduceCtorEq, Int.reduceNeg, Int.reduceLT, Int.reduceLE, Int.reduceEq, Int.reduceToNat, wrap_in, List.getElem?_drop, List.getElem?_map, List.length_map, if_some, most_eq, set_map_b, app_map_i, getElem?_some_of, Int.natCast_nonneg, Bool.false_eq_true, decide_true, decide_false, Bool.not_true, Bool.not_false, and_self, eq_self, false_implies, or_self, Bool.and_self, false_or, or_false, Bool.false_and, Bool.true_beq, Bool.false_beq, dkR, dkB, dkP]) | ((with_reducible refine And.intro ?_ ?_); omega) | ((fail_if_success (with_reducible first | refine isHS ?_ | refine isRet ?_ | refine isCall ?_ | refine isNext ?_ | refine isNextP ?_ | refine isThen ?_ | refine isBlock ?_ | refine isOut ?_ | refine isOutN ?_)); (simp only [D.int, D.bool])))
        refine bind'_of (look_mF rfl) ?_
        rw [hg]
        repeat' (first | (with_reducible refine HS.seq ?_) | (with_reducible refine HS.opsK good (fun K hK => ?_)) | (with_reducible refine wpS_app (fun K hK => ?_)) | ((with_reducible refine hK _ ?_); clear hK K) | (with_reducible refine HS.drw good (fun K hK => ?_)) | ((with_reducible refine And.intro (Chk.mk' ?_) ?_); kernel_rfl) | (with_reducible refine HS.block ?_) | ((with_reducible refine HS.cond1 ?_ ?_); rfl) | ((with_reducible refine HS.cond0 ?_ ?_); rfl) | ((with_reducible apply HS.condB) <;> first | rfl | (with_reducible intro h)) | (with_reducible refine HS.exit ?_) | (with_reducible refine HS.ret ?_) | (with_reducible refine HS.skip ?_) | (with_reducible first | refine thenQ_n ?_ | refine blockQ_n ?_ | refine thenQ_r ?_ | refine blockQ_r ?_ | refine thenQ_x ?_ | refine blockQ_hit ?_ | refine endS_r ?_ | refine endS_n ?_) | ((with_reducible refine blockQ_miss ?_ ?_); rfl) | (with_reducible refine Two.mk' (fun h => ?_) (fun h => ?_) <;> try (exfalso; omega)) | ((with_reducible refine Bsel.mk' (fun h => ?_) (fun h => ?_)) <;> (try simp only [h])) | ((fail_if_success (with_reducible first | refine isHS ?_ | refine isRet ?_ | refine isCall ?_ | refine isNext ?_ | refine isNextP ?_ | refine isThen ?_ | refine isBlock ?_ | refine isOut ?_ | refine isOutN ?_)); simp (disch := omega) only [↓LD, LU, loadA_rf, wpS_nil, wpS_a, wpS_n, wpS_g, ↓Bsel_true, ↓Bsel_false, frm_get, frm_getD, frm_set, look_cons, look_nil, List.set_cons_succ, List.set_cons_zero, List.getElem?_cons_succ, List.getElem?_cons_zero, ↓bind'_some, ↓Two_true, ↓Two_false, List.length_cons, List.length_nil, List.cons_append, List.nil_append, List.map_cons, List.map_nil, List.take_succ_cons, List.take_zero, List.drop_succ_cons, List.drop_zero, Option.map_some, Option.map_none, ↓reduceIte, Nat.reduceAdd, Nat.reduceMul, Nat.reduceSub, Nat.reduceLeDiff, Nat.reduceLT, Nat.reduceEqDiff, Nat.add_zero, Nat.zero_add, Nat.mul_one, Int.toNat_natCast, Nat.mul_zero, Nat.zero_mul, true_and, and_true, reduceCtorEq, Int.reduceNeg, Int.reduceLT, Int.reduceLE, Int.reduceEq, Int.reduceToNat, wrap_in, List.getElem?_drop, List.getElem?_map, List.length_map, if_some, most_eq, set_map_b, app_map_i, getElem?_some_of, Int.natCast_nonneg, Bool.false_eq_true, decide_true, decide_false, Bool.not_true, Bool.not_false, and_self, eq_self, false_implies, or_self, Bool.and_self, false_or, or_false, Bool.false_and, Bool.true_beq, Bool.false_beq, orN]) | ((with_reducible refine And.intro ?_ ?_); omega) | ((fail_if_success (with_reducible first | refine isHS ?_ | refine isRet ?_ | refine isCall ?_ | refine isNext ?_ | refine isNextP ?_ | refine isThen ?_ | refine isBlock ?_ | refine isOut ?_ | refine isOutN ?_)); (simp only [D.int, D.bool])))
        refine callW_emb c_byte_Clone0 [] (by kernel_rfl) rfl rfl ?_
        rintro _ _ ⟨rfl, rfl⟩
        repeat' (first | (with_reducible refine HS.seq ?_) | (with_reducible refine HS.opsK good (fun K hK => ?_)) | (with_reducible refine wpS_app (fun K hK => ?_)) | ((with_reducible refine hK _ ?_); clear hK K) | (with_reducible refine HS.drw good (fun K hK => ?_)) | ((with_reducible refine And.intro (Chk.mk' ?_) ?_); kernel_rfl) | (with_reducible refine HS.block ?_) | ((with_reducible refine HS.cond1 ?_ ?_); rfl) | ((with_reducible refine HS.cond0 ?_ ?_); rfl) | ((with_reducible apply HS.condB) <;> first | rfl | (with_reducible intro h)) | (with_reducible refine HS.exit ?_) | (with_reducible refine HS.ret ?_) | (with_reducible refine HS.skip ?_) | (with_reducible first | refine thenQ_n ?_ | refine blockQ_n ?_ | refine thenQ_r ?_ | refine blockQ_r ?_ | refine thenQ_x ?_ | refine blockQ_hit ?_ | refine endS_r ?_ | refine endS_n ?_) | ((with_reducible refine blockQ_miss ?_ ?_); rfl) | (with_reducible refine Two.mk' (fun h => ?_) (fun h => ?_) <;> try (exfalso; omega)) | ((with_reducible refine Bsel.mk' (fun h => ?_) (fun h => ?_)) <;> (try simp only [h])) | ((fail_if_success (with_reducible first | refine isHS ?_ | refine isRet ?_ | refine isCall ?_ | refine isNext ?_ | refine isNextP ?_ | refine isThen ?_ | refine isBlock ?_ | refine isOut ?_ | refine isOutN ?_)); simp (disch := omega) only [↓LD, LU, loadA_rf, wpS_nil, wpS_a, wpS_n, wpS_g, ↓Bsel_true, ↓Bsel_false, frm_get, frm_getD, frm_set, look_cons, look_nil, List.set_cons_succ, List.set_cons_zero, List.getElem?_cons_succ, List.getElem?_cons_zero, ↓bind'_some, ↓Two_true, ↓Two_false, List.length_cons, List.length_nil, List.cons_append, List.nil_append, List.map_cons, List.map_nil, List.take_succ_cons, List.take_zero, List.drop_succ_cons, List.drop_zero, Option.map_some, Option.map_none, ↓reduceIte, Nat.reduceAdd, Nat.reduceMul, Nat.reduceSub, Nat.reduceLeDiff, Nat.reduceLT, Nat.reduceEqDiff, Nat.add_zero, Nat.zero_add, Nat.mul_one, Int.toNat_natCast, Nat.mul_zero, Nat.zero_mul, true_and, and_true, reduceCtorEq, Int.reduceNeg, Int.reduceLT, Int.reduceLE, Int.reduceEq, Int.reduceToNat, wrap_in, List.getElem?_drop, List.getElem?_map, List.length_map, if_some, most_eq, set_map_b, app_map_i, getElem?_some_of, Int.natCast_nonneg, Bool.false_eq_true, decide_true, decide_false, Bool.not_true, Bool.not_false, and_self, eq_self, false_implies, or_self, Bool.and_self, false_or, or_false, Bool.false_and, Bool.true_beq, Bool.false_beq, List.append_nil]) | ((with_reducible refine And.intro ?_ ?_); omega) | ((fail_if_success (with_reducible first | refine isHS ?_ | refine isRet ?_ | refine isCall ?_ | refine isNext ?_ | refine isNextP ?_ | refine isThen ?_ | refine isBlock ?_ | refine isOut ?_ | refine isOutN ?_)); (simp only [D.int, D.bool])))
        exact endA rfl rfl ⟨rfl, rfl⟩
      | some y =>
        obtain ⟨h1, h2⟩ := he.get hg
        obtain ⟨q, hq⟩ : ∃ q, y.length = q + 1 := by
          cases y with
          | nil => exact absurd rfl h1
          | cons z y => exact ⟨y.length, rfl⟩
        repeat' (first | (with_reducible refine HS.seq ?_) | (with_reducible refine HS.opsK good (fun K hK => ?_)) | (with_reducible refine wpS_app (fun K hK => ?_)) | ((with_reducible refine hK _ ?_); clear hK K) | (with_reducible refine HS.drw good (fun K hK => ?_)) | ((with_reducible refine And.intro (Chk.mk' ?_) ?_); kernel_rfl) | (with_reducible refine HS.block ?_) | ((with_reducible refine HS.cond1 ?_ ?_); rfl) | ((with_reducible refine HS.cond0 ?_ ?_); rfl) | ((with_reducible apply HS.condB) <;> first | rfl | (with_reducible intro h)) | (with_reducible refine HS.exit ?_) | (with_reducible refine HS.ret ?_) | (with_reducible refine HS.skip ?_) | (with_reducible first | refine thenQ_n ?_ | refine blockQ_n ?_ | refine thenQ_r ?_ | refine blockQ_r ?_ | refine thenQ_x ?_ | refine blockQ_hit ?_ | refine endS_r ?_ | refine endS_n ?_) | ((with_reducible refine blockQ_miss ?_ ?_); rfl) | (with_reducible refine Two.mk' (fun h => ?_) (fun h => ?_) <;> try (exfalso; omega)) | ((with_reducible refine Bsel.mk' (fun h => ?_) (fun h => ?_)) <;> (try simp only [h])) | ((fail_if_success (with_reducible first | refine isHS ?_ | refine isRet ?_ | refine isCall ?_ | refine isNext ?_ | refine isNextP ?_ | refine isThen ?_ | refine isBlock ?_ | refine isOut ?_ | refine isOutN ?_)); simp (disch := omega) only [↓LD, LU, loadA_rf, wpS_nil, wpS_a, wpS_n, wpS_g, ↓Bsel_true, ↓Bsel_false, frm_get, frm_getD, frm_set, look_cons, look_nil, List.set_cons_succ, List.set_cons_zero, List.getElem?_cons_succ, List.getElem?_cons_zero, ↓bind'_some, ↓Two_true, ↓Two_false, List.length_cons, List.length_nil, List.cons_append, List.nil_append, List.map_cons, List.map_nil, List.take_succ_cons, List.take_zero, List.drop_succ_cons, List.drop_zero, Option.map_some, Option.map_none, ↓reduceIte, Nat.reduceAdd, Nat.reduceMul, Nat.reduceSub, Nat.reduceLeDiff, Nat.reduceLT, Nat.reduceEqDiff, Nat.add_zero, Nat.zero_add, Nat.mul_one, Int.toNat_natCast, Nat.mul_zero, Nat.zero_mul, true_and, and_true, reduceCtorEq, Int.reduceNeg, Int.reduceLT, Int.reduceLE, Int.reduceEq, Int.reduceToNat, wrap_in, List.getElem?_drop, List.getElem?_map, List.length_map, if_some, most_eq, set_map_b, app_map_i, getElem?_some_of, Int.natCast_nonneg, Bool.false_eq_true, decide_true, decide_false, Bool.not_true, Bool.not_false, and_self, eq_self, false_implies, or_self, Bool.and_self, false_or, or_false, Bool.false_and, Bool.true_beq, Bool.false_beq, dkR, dkB, dkP]) | ((with_reducible refine And.intro ?_ ?_); omega) | ((fail_if_success (with_reducible first | refine isHS ?_ | refine isRet ?_ | refine isCall ?_ | refine isNext ?_ | refine isNextP ?_ | refine isThen ?_ | refine isBlock ?_ | refine isOut ?_ | refine isOutN ?_)); (simp only [D.int, D.bool])))
        refine bind'_of (look_mF rfl) ?_
        rw [hg]
        repeat' (first | (with_reducible refine HS.seq ?_) | (with_reducible refine HS.opsK good (fun K hK => ?_)) | (with_reducible refine wpS_app (fun K hK => ?_)) | ((with_reducible refine hK _ ?_); clear hK K) | (with_reducible refine HS.drw good (fun K hK => ?_)) | ((with_reducible refine And.intro (Chk.mk' ?_) ?_); kernel_rfl) | (with_reducible refine HS.block ?_) | ((with_reducible refine HS.cond1 ?_ ?_); rfl) | ((with_reducible refine HS.cond0 ?_ ?_); rfl) | ((with_reducible apply HS.condB) <;> first | rfl | (with_reducible intro h)) | (with_reducible refine HS.exit ?_) | (with_reducible refine HS.ret ?_) | (with_reducible refine HS.skip ?_) | (with_reducible first | refine thenQ_n ?_ | refine blockQ_n ?_ | refine thenQ_r ?_ | refine blockQ_r ?_ | refine thenQ_x ?_ | refine blockQ_hit ?_ | refine endS_r ?_ | refine endS_n ?_) | ((with_reducible refine blockQ_miss ?_ ?_); rfl) | (with_reducible refine Two.mk' (fun h => ?_) (fun h => ?_) <;> try (exfalso; omega)) | ((with_reducible refine Bsel.mk' (fun h => ?_) (fun h => ?_)) <;> (try simp only [h])) | ((fail_if_success (with_reducible first | refine isHS ?_ | refine isRet ?_ | refine isCall ?_ | refine isNext ?_ | refine isNextP ?_ | refine isThen ?_ | refine isBlock ?_ | refine isOut ?_ | refine isOutN ?_)); simp (disch := omega) only [↓LD, LU, loadA_rf, wpS_nil, wpS_a, wpS_n, wpS_g, ↓Bsel_true, ↓Bsel_false, frm_get, frm_getD, frm_set, look_cons, look_nil, List.set_cons_succ, List.set_cons_zero, List.getElem?_cons_succ, List.getElem?_cons_zero, ↓bind'_some, ↓Two_true, ↓Two_false, List.length_cons, List.length_nil, List.cons_append, List.nil_append, List.map_cons, List.map_nil, List.take_succ_cons, List.take_zero, List.drop_succ_cons, List.drop_zero, Option.map_some, Option.map_none, ↓reduceIte, Nat.reduceAdd, Nat.reduceMul, Nat.reduceSub, Nat.reduceLeDiff, Nat.reduceLT, Nat.reduceEqDiff, Nat.add_zero, Nat.zero_add, Nat.mul_one, Int.toNat_natCast, Nat.mul_zero, Nat.zero_mul, true_and, and_true, reduceCtorEq, Int.reduceNeg, Int.reduceLT, Int.reduceLE, Int.reduceEq, Int.reduceToNat, wrap_in, List.getElem?_drop, List.getElem?_map, List.length_map, if_some, most_eq, set_map_b, app_map_i, getElem?_some_of, Int.natCast_nonneg, Bool.false_eq_true, decide_true, decide_false, Bool.not_true, Bool.not_false, and_self, eq_self, false_implies, or_self, Bool.and_self, false_or, or_false, Bool.false_and, Bool.true_beq, Bool.false_beq, orN]) | ((with_reducible refine And.intro ?_ ?_); omega) | ((fail_if_success (with_reducible first | refine isHS ?_ | refine isRet ?_ | refine isCall ?_ | refine isNext ?_ | refine isNextP ?_ | refine isThen ?_ | refine isBlock ?_ | refine isOut ?_ | refine isOutN ?_)); (simp only [D.int, D.bool])))
        refine callW_emb (c_byte_CloneF y q hq (by omega)) [] (by kernel_rfl) rfl rfl ?_
        rintro _ _ ⟨rfl, rfl⟩
        repeat' (first | (with_reducible refine HS.seq ?_) | (with_reducible refine HS.opsK good (fun K hK => ?_)) | (with_reducible refine wpS_app (fun K hK => ?_)) | ((with_reducible refine hK _ ?_); clear hK K) | (with_reducible refine HS.drw good (fun K hK => ?_)) | ((with_reducible refine And.intro (Chk.mk' ?_) ?_); kernel_rfl) | (with_reducible refine HS.block ?_) | ((with_reducible refine HS.cond1 ?_ ?_); rfl) | ((with_reducible refine HS.cond0 ?_ ?_); rfl) | ((with_reducible apply HS.condB) <;> first | rfl | (with_reducible intro h)) | (with_reducible refine HS.exit ?_) | (with_reducible refine HS.ret ?_) | (with_reducible refine HS.skip ?_) | (with_reducible first | refine thenQ_n ?_ | refine blockQ_n ?_ | refine thenQ_r ?_ | refine blockQ_r ?_ | refine thenQ_x ?_ | refine blockQ_hit ?_ | refine endS_r ?_ | refine endS_n ?_) | ((with_reducible refine blockQ_miss ?_ ?_); rfl) | (with_reducible refine Two.mk' (fun h => ?_) (fun h => ?_) <;> try (exfalso; omega)) | ((with_reducible refine Bsel.mk' (fun h => ?_) (fun h => ?_)) <;> (try simp only [h])) | ((fail_if_success (with_reducible first | refine isHS ?_ | refine isRet ?_ | refine isCall ?_ | refine isNext ?_ | refine isNextP ?_ | refine isThen ?_ | refine isBlock ?_ | refine isOut ?_ | refine isOutN ?_)); simp (disch := omega) only [↓LD, LU, loadA_rf, wpS_nil, wpS_a, wpS_n, wpS_g, ↓Bsel_true, ↓Bsel_false, frm_get, frm_getD, frm_set, look_cons, look_nil, List.set_cons_succ, List.set_cons_zero, List.getElem?_cons_succ, List.getElem?_cons_zero, ↓bind'_some, ↓Two_true, ↓Two_false, List.length_cons, List.length_nil, List.cons_append, List.nil_append, List.map_cons, List.map_nil, List.take_succ_cons, List.take_zero, List.drop_succ_cons, List.drop_zero, Option.map_some, Option.map_none, ↓reduceIte, Nat.reduceAdd, Nat.reduceMul, Nat.reduceSub, Nat.reduceLeDiff, Nat.reduceLT, Nat.reduceEqDiff, Nat.add_zero, Nat.zero_add, Nat.mul_one, Int.toNat_natCast, Nat.mul_zero, Nat.zero_mul, true_and, and_true, reduceCtorEq, Int.reduceNeg, Int.reduceLT, Int.reduceLE, Int.reduceEq, Int.reduceToNat, wrap_in, List.getElem?_drop, List.getElem?_map, List.length_map, if_some, most_eq, set_map_b, app_map_i, getElem?_some_of, Int.natCast_nonneg, Bool.false_eq_true, decide_true, decide_false, Bool.not_true, Bool.not_false, and_self, eq_self, false_implies, or_self, Bool.and_self, false_or, or_false, Bool.false_and, Bool.true_beq, Bool.false_beq, List.append_nil]) | ((with_reducible refine And.intro ?_ ?_); omega) | ((fail_if_success (with_reducible first | refine isHS ?_ | refine isRet ?_ | refine isCall ?_ | refine isNext ?_ | refine isNextP ?_ | refine isThen ?_ | refine isBlock ?_ | refine isOut ?_ | refine isOutN ?_)); (simp only [D.int, D.bool])))
        exact endA rfl rfl ⟨rfl, rfl⟩
    · repeat' (first | (with_reducible refine HS.seq ?_) | (with_reducible refine HS.opsK good (fun K hK => ?_)) | (with_reducible refine wpS_app (fun K hK => ?_)) | ((with_reducible refine hK _ ?_); clear hK K) | (with_reducible refine HS.drw good (fun K hK => ?_)) | ((with_reducible refine And.intro (Chk.mk' ?_) ?_); kernel_rfl) | (with_reducible refine HS.block ?_) | ((with_reducible refine HS.cond1 ?_ ?_); rfl) | ((with_reducible refine HS.cond0 ?_ ?_); rfl) | ((with_reducible apply HS.condB) <;> first | rfl | (with_reducible intro h)) | (with_reducible refine HS.exit ?_) | (with_reducible refine HS.ret ?_) | (with_reducible refine HS.skip ?_) | (with_reducible first | refine thenQ_n ?_ | refine blockQ_n ?_ | refine thenQ_r ?_ | refine blockQ_r ?_ | refine thenQ_x ?_ | refine blockQ_hit ?_ | refine endS_r ?_ | refine endS_n ?_) | ((with_reducible refine blockQ_miss ?_ ?_); rfl) | (with_reducible refine Two.mk' (fun h => ?_) (fun h => ?_) <;> try (exfalso; omega)) | ((with_reducible refine Bsel.mk' (fun h => ?_) (fun h => ?_)) <;> (try simp only [h])) | ((fail_if_success (with_reducible first | refine isHS ?_ | refine isRet ?_ | refine isCall ?_ | refine isNext ?_ | refine isNextP ?_ | refine isThen ?_ | refine isBlock ?_ | refine isOut ?_ | refine isOutN ?_)); simp (disch := omega) only [↓LD, LU, loadA_rf, wpS_nil, wpS_a, wpS_n, wpS_g, ↓Bsel_true, ↓Bsel_false, frm_get, frm_getD, frm_set, look_cons, look_nil, List.set_cons_succ, List.set_cons_zero, List.getElem?_cons_succ, List.getElem?_cons_zero, ↓bind'_some, ↓Two_true, ↓Two_false, List.length_cons, List.length_nil, List.cons_append, List.nil_append, List.map_cons, List.map_nil, List.take_succ_cons, List.take_zero, List.drop_succ_cons, List.drop_zero, Option.map_some, Option.map_none, ↓reduceIte, Nat.reduceAdd, Nat.reduceMul, Nat.reduceSub, Nat.reduceLeDiff, Nat.reduceLT, Nat.reduceEqDiff, Nat.add_zero, Nat.zero_add, Nat.mul_one, Int.toNat_natCast, Nat.mul_zero, Nat.zero_mul, true_and, and_true, reduceCtorEq, Int.reduceNeg, Int.reduceLT, Int.reduceLE, Int.reduceEq, Int.reduceToNat, wrap_in, List.getElem?_drop, List.getElem?_map, List.length_map, if_some, most_eq, set_map_b, app_map_i, getElem?_some_of, Int.natCast_nonneg, Bool.false_eq_true, decide_true, decide_false, Bool.not_true, Bool.not_false, and_self, eq_self, false_implies, or_self, Bool.and_self, false_or, or_false, Bool.false_and, Bool.true_beq, Bool.false_beq, dkR, dkB, dkP]) | ((with_reducible refine And.intro ?_ ?_); omega) | ((fail_if_success (with_reducible first | refine isHS ?_ | refine isRet ?_ | refine isCall ?_ | refine isNext ?_ | refine isNextP ?_ | refine isThen ?_ | refine isBlock ?_ | refine isOut ?_ | refine isOutN ?_)); (simp only [D.int, D.bool])))
      exact endA rfl rfl ⟨rfl, rfl⟩
  · cases dead
    · cases hg : fGet e2 k with
      | none =>
        repeat' (first | (with_reducible refine HS.seq ?_) | (with_reducible refine HS.opsK good (fun K hK => ?_)) | (with_reducible refine wpS_app (fun K hK => ?_)) | ((with_reducible refine hK _ ?_); clear hK K) | (with_reducible refine HS.drw good (fun K hK => ?_)) | ((with_reducible refine And.intro (Chk.mk' ?_) ?_); kernel_rfl) | (with_reducible refine HS.block ?_) | ((with_reducible refine HS.cond1 ?_ ?_); rfl) | ((with_reducible refine HS.cond0 ?_ ?_); rfl) | ((with_reducible apply HS.condB) <;> first | rfl | (with_reducible intro h)) | (with_reducible refine HS.exit ?_) | (with_reducible refine HS.ret ?_) | (with_reducible refine HS.skip ?_) | (with_reducible first | refine thenQ_n ?_ | refine blockQ_n ?_ | refine thenQ_r ?_ | refine blockQ_r ?_ | refine thenQ_x ?_ | refine blockQ_hit ?_ | refine endS_r ?_ | refine endS_n ?_) | ((with_reducible refine blockQ_miss ?_ ?_); rfl) | (with_reducible refine Two.mk' (fun h => ?_) (fun h => ?_) <;> try (exfalso; omega)) | ((with_reducible refine Bsel.mk' (fun h => ?_) (fun h => ?_)) <;> (try simp only [h])) | ((fail_if_success (with_reducible first | refine isHS ?_ | refine isRet ?_ | refine isCall ?_ | refine isNext ?_ | refine isNextP ?_ | refine isThen ?_ | refine isBlock ?_ | refine isOut ?_ | refine isOutN ?_)); simp (disch := omega) only [↓LD, LU, loadA_rf, wpS_nil, wpS_a, wpS_n, wpS_g, ↓Bsel_true, ↓Bsel_false, frm_get, frm_getD, frm_set, look_cons, look_nil, List.set_cons_succ, List.set_cons_zero, List.getElem?_cons_succ, List.getElem?_cons_zero, ↓bind'_some, ↓Two_true, ↓Two_false, List.length_cons, List.length_nil, List.cons_append, List.nil_append, List.map_cons, List.map_nil, List.take_succ_cons, List.take_zero, List.drop_succ_cons, List.drop_zero, Option.map_some, Option.map_none, ↓reduceIte, Nat.reduceAdd, Nat.reduceMul, Nat.reduceSub, Nat.reduceLeDiff, Nat.reduceLT, Nat.reduceEqDiff, Nat.add_zero, Nat.zero_add, Nat.mul_one, Int.toNat_natCast, Nat.mul_zero, Nat.zero_mul, true_and, and_true, reduceCtorEq, Int.reduceNeg, Int.reduceLT, Int.reduceLE, Int.reduceEq, Int.reduceToNat, wrap_in, List.getElem?_drop, List.getElem?_map, List.length_map, if_some, most_eq, set_map_b, app_map_i, getElem?_some_of, Int.natCast_nonneg, Bool.false_eq_true, decide_true, decide_false, Bool.not_true, Bool.not_false, and_self, eq_self, false_implies, or_self, Bool.and_self, false_or, or_false, Bool.false_and, Bool.true_beq, Bool.false_beq, dkR, dkB, dkP]) | ((with_reducible refine And.intro ?_ ?_); omega) | ((fail_if_success (with_reducible first | refine isHS ?_ | refine isRet ?_ | refine isCall ?_ | refine isNext ?_ | refine isNextP ?_ | refine isThen ?_ | refine isBlock ?_ | refine isOut ?_ | refine isOutN ?_)); (simp only [D.int, D.bool])))
        refine bind'_of (look_mF rfl) ?_
        rw [hg]
        repeat' (first | (with_reducible refine HS.seq ?_) | (with_reducible refine HS.opsK good (fun K hK => ?_)) | (with_reducible refine wpS_app (fun K hK => ?_)) | ((with_reducible refine hK _ ?_); clear hK K) | (with_reducible refine HS.drw good (fun K hK => ?_)) | ((with_reducible refine And.intro (Chk.mk' ?_) ?_); kernel_rfl) | (with_reducible refine HS.block ?_) | ((with_reducible refine HS.cond1 ?_ ?_); rfl) | ((with_reducible refine HS.cond0 ?_ ?_); rfl) | ((with_reducible apply HS.condB) <;> first | rfl | (with_reducible intro h)) | (with_reducible refine HS.exit ?_) | (with_reducible refine HS.ret ?_) | (with_reducible refine HS.skip ?_) | (with_reducible first | refine thenQ_n ?_ | refine blockQ_n ?_ | refine thenQ_r ?_ | refine blockQ_r ?_ | refine thenQ_x ?_ | refine blockQ_hit ?_ | refine endS_r ?_ | refine endS_n ?_) | ((with_reducible refine blockQ_miss ?_ ?_); rfl) | (with_reducible refine Two.mk' (fun h => ?_) (fun h => ?_) <;> try (exfalso; omega)) | ((with_reducible refine Bsel.mk' (fun h => ?_) (fun h => ?_)) <;> (try simp only [h])) | ((fail_if_success (with_reducible first | refine isHS ?_ | refine isRet ?_ | refine isCall ?_ | refine isNext ?_ | refine isNextP ?_ | refine isThen ?_ | refine isBlock ?_ | refine isOut ?_ | refine isOutN ?_)); simp (disch := omega) only [↓LD, LU, loadA_rf, wpS_nil, wpS_a, wpS_n, wpS_g, ↓Bsel_true, ↓Bsel_false, frm_get, frm_getD, frm_set, look_cons, look_nil, List.set_cons_succ, List.set_cons_zero, List.getElem?_cons_succ, List.getElem?_cons_zero, ↓bind'_some, ↓Two_true, ↓Two_false, List.length_cons, List.length_nil, List.cons_append, List.nil_append, List.map_cons, List.map_nil, List.take_succ_cons, List.take_zero, List.drop_succ_cons, List.drop_zero, Option.map_some, Option.map_none, ↓reduceIte, Nat.reduceAdd, Nat.reduceMul, Nat.reduceSub, Nat.reduceLeDiff, Nat.reduceLT, Nat.reduceEqDiff, Nat.add_zero, Nat.zero_add, Nat.mul_one, Int.toNat_natCast, Nat.mul_zero, Nat.zero_mul, true_and, and_true, reduceCtorEq, Int.reduceNeg, Int.reduceLT, Int.reduceLE, Int.reduceEq, Int.reduceToNat, wrap_in, List.getElem?_drop, List.getElem?_map, List.length_map, if_some, most_eq, set_map_b, app_map_i, getElem?_some_of, Int.natCast_nonneg, Bool.false_eq_true, decide_true, decide_false, Bool.not_true, Bool.not_false, and_self, eq_self, false_implies, or_self, Bool.and_self, false_or, or_false, Bool.false_and, Bool.true_beq, Bool.false_beq, orN]) | ((with_reducible refine And.intro ?_ ?_); omega) | ((fail_if_success (with_reducible first | refine isHS ?_ | refine isRet ?_ | refine isCall ?_ | refine isNext ?_ | refine isNextP ?_ | refine isThen ?_ | refine isBlock ?_ | refine isOut ?_ | refine isOutN ?_)); (simp only [D.int, D.bool])))
        refine callW_emb c_byte_Clone0 [] (by kernel_rfl) rfl rfl ?_
        rintro _ _ ⟨rfl, rfl⟩
        repeat' (first | (with_reducible refine HS.seq ?_) | (with_reducible refine HS.opsK good (fun K hK => ?_)) | (with_reducible refine wpS_app (fun K hK => ?_)) | ((with_reducible refine hK _ ?_); clear hK K) | (with_reducible refine HS.drw good (fun K hK => ?_)) | ((with_reducible refine And.intro (Chk.mk' ?_) ?_); kernel_rfl) | (with_reducible refine HS.block ?_) | ((with_reducible refine HS.cond1 ?_ ?_); rfl) | ((with_reducible refine HS.cond0 ?_ ?_); rfl) | ((with_reducible apply HS.condB) <;> first | rfl | (with_reducible intro h)) | (with_reducible refine HS.exit ?_) | (with_reducible refine HS.ret ?_) | (with_reducible refine HS.skip ?_) | (with_reducible first | refine thenQ_n ?_ | refine blockQ_n ?_ | refine thenQ_r ?_ | refine blockQ_r ?_ | refine thenQ_x ?_ | refine blockQ_hit ?_ | refine endS_r ?_ | refine endS_n ?_) | ((with_reducible refine blockQ_miss ?_ ?_); rfl) | (with_reducible refine Two.mk' (fun h => ?_) (fun h => ?_) <;> try (exfalso; omega)) | ((with_reducible refine Bsel.mk' (fun h => ?_) (fun h => ?_)) <;> (try simp only [h])) | ((fail_if_success (with_reducible first | refine isHS ?_ | refine isRet ?_ | refine isCall ?_ | refine isNext ?_ | refine isNextP ?_ | refine isThen ?_ | refine isBlock ?_ | refine isOut ?_ | refine isOutN ?_)); simp (disch := omega) only [↓LD, LU, loadA_rf, wpS_nil, wpS_a, wpS_n, wpS_g, ↓Bsel_true, ↓Bsel_false, frm_get, frm_getD, frm_set, look_cons, look_nil, List.set_cons_succ, List.set_cons_zero, List.getElem?_cons_succ, List.getElem?_cons_zero, ↓bind'_some, ↓Two_true, ↓Two_false, List.length_cons, List.length_nil, List.cons_append, List.nil_append, List.map_cons, List.map_nil, List.take_succ_cons, List.take_zero, List.drop_succ_cons, List.drop_zero, Option.map_some, Option.map_none, ↓reduceIte, Nat.reduceAdd, Nat.reduceMul, Nat.reduceSub, Nat.reduceLeDiff, Nat.reduceLT, Nat.reduceEqDiff, Nat.add_zero, Nat.zero_add, Nat.mul_one, Int.toNat_natCast, Nat.mul_zero, Nat.zero_mul, true_and, and_true, reduceCtorEq, Int.reduceNeg, Int.reduceLT, Int.reduceLE, Int.reduceEq, Int.reduceToNat, wrap_in, List.getElem?_drop, List.getElem?_map, List.length_map, if_some, most_eq, set_map_b, app_map_i, getElem?_some_of, Int.natCast_nonneg, Bool.false_eq_true, decide_true, decide_false, Bool.not_true, Bool.not_false, and_self, eq_self, false_implies, or_self, Bool.and_self, false_or, or_false, Bool.false_and, Bool.true_beq, Bool.false_beq, List.append_nil]) | ((with_reducible refine And.intro ?_ ?_); omega) | ((fail_if_success (with_reducible first | refine isHS ?_ | refine isRet ?_ | refine isCall ?_ | refine isNext ?_ | refine isNextP ?_ | refine isThen ?_ | refine isBlock ?_ | refine isOut ?_ | refine isOutN ?_)); (simp only [D.int, D.bool])))
        exact endA rfl rfl ⟨rfl, rfl⟩
      | some y =>
        obtain ⟨h1, h2⟩ := he.get hg
        obtain ⟨q, hq⟩ : ∃ q, y.length = q + 1 := by
          cases y with
          | nil => exact absurd rfl h1
          | cons z y => exact ⟨y.length, rfl⟩
        repeat' (first | (with_reducible refine HS.seq ?_) | (with_reducible refine HS.opsK good (fun K hK => ?_)) | (with_reducible refine wpS_app (fun K hK => ?_)) | ((with_reducible refine hK _ ?_); clear hK K) | (with_reducible refine HS.drw good (fun K hK => ?_)) | ((with_reducible refine And.intro (Chk.mk' ?_) ?_); kernel_rfl) | (with_reducible refine HS.block ?_) | ((with_reducible refine HS.cond1 ?_ ?_); rfl) | ((with_reducible refine HS.cond0 ?_ ?_); rfl) | ((with_reducible apply HS.condB) <;> first | rfl | (with_reducible intro h)) | (with_reducible refine HS.exit ?_) | (with_reducible refine HS.ret ?_) | (with_reducible refine HS.skip ?_) | (with_reducible first | refine thenQ_n ?_ | refine blockQ_n ?_ | refine thenQ_r ?_ | refine blockQ_r ?_ | refine thenQ_x ?_ | refine blockQ_hit ?_ | refine endS_r ?_ | refine endS_n ?_) | ((with_reducible refine blockQ_miss ?_ ?_); rfl) | (with_reducible refine Two.mk' (fun h => ?_) (fun h => ?_) <;> try (exfalso; omega)) | ((with_reducible refine Bsel.mk' (fun h => ?_) (fun h => ?_)) <;> (try simp only [h])) | ((fail_if_success (with_reducible first | refine isHS ?_ | refine isRet ?_ | refine isCall ?_ | refine isNext ?_ | refine isNextP ?_ | refine isThen ?_ | refine isBlock ?_ | refine isOut ?_ | refine isOutN ?_)); simp (disch := omega) only [↓LD, LU, loadA_rf, wpS_nil, wpS_a, wpS_n, wpS_g, ↓Bsel_true, ↓Bsel_false, frm_get, frm_getD, frm_set, look_cons, look_nil, List.set_cons_succ, List.set_cons_zero, List.getElem?_cons_succ, List.getElem?_cons_zero, ↓bind'_some, ↓Two_true, ↓Two_false, List.length_cons, List.length_nil, List.cons_append, List.nil_append, List.map_cons, List.map_nil, List.take_succ_cons, List.take_zero, List.drop_succ_cons, List.drop_zero, Option.map_some, Option.map_none, ↓reduceIte, Nat.reduceAdd, Nat.reduceMul, Nat.reduceSub, Nat.reduceLeDiff, Nat.reduceLT, Nat.reduceEqDiff, Nat.add_zero, Nat.zero_add, Nat.mul_one, Int.toNat_natCast, Nat.mul_zero, Nat.zero_mul, true_and, and_true, reduceCtorEq, Int.reduceNeg, Int.reduceLT, Int.reduceLE, Int.reduceEq, Int.reduceToNat, wrap_in, List.getElem?_drop, List.getElem?_map, List.length_map, if_some, most_eq, set_map_b, app_map_i, getElem?_some_of, Int.natCast_nonneg, Bool.false_eq_true, decide_true, decide_false, Bool.not_true, Bool.not_false, and_self, eq_self, false_implies, or_self, Bool.and_self, false_or, or_false, Bool.false_and, Bool.true_beq, Bool.false_beq, dkR, dkB, dkP]) | ((with_reducible refine And.intro ?_ ?_); omega) | ((fail_if_success (with_reducible first | refine isHS ?_ | refine isRet ?_ | refine isCall ?_ | refine isNext ?_ | refine isNextP ?_ | refine isThen ?_ | refine isBlock ?_ | refine isOut ?_ | refine isOutN ?_)); (simp only [D.int, D.bool])))
        refine bind'_of (look_mF rfl) ?_
        rw [hg]
        repeat' (first | (with_reducible refine HS.seq ?_) | (with_reducible refine HS.opsK good (fun K hK => ?_)) | (with_reducible refine wpS_app (fun K hK => ?_)) | ((with_reducible refine hK _ ?_); clear hK K) | (with_reducible refine HS.drw good (fun K hK => ?_)) | ((with_reducible refine And.intro (Chk.mk' ?_) ?_); kernel_rfl) | (with_reducible refine HS.block ?_) | ((with_reducible refine HS.cond1 ?_ ?_); rfl) | ((with_reducible refine HS.cond0 ?_ ?_); rfl) | ((with_reducible apply HS.condB) <;> first | rfl | (with_reducible intro h)) | (with_reducible refine HS.exit ?_) | (with_reducible refine HS.ret ?_) | (with_reducible refine HS.skip ?_) | (with_reducible first | refine thenQ_n ?_ | refine blockQ_n ?_ | refine thenQ_r ?_ | refine blockQ_r ?_ | refine thenQ_x ?_ | refine blockQ_hit ?_ | refine endS_r ?_ | refine endS_n ?_) | ((with_reducible refine blockQ_miss ?_ ?_); rfl) | (with_reducible refine Two.mk' (fun h => ?_) (fun h => ?_) <;> try (exfalso; omega)) | ((with_reducible refine Bsel.mk' (fun h => ?_) (fun h => ?_)) <;> (try simp only [h])) | ((fail_if_success (with_reducible first | refine isHS ?_ | refine isRet ?_ | refine isCall ?_ | refine isNext ?_ | refine isNextP ?_ | refine isThen ?_ | refine isBlock ?_ | refine isOut ?_ | refine isOutN ?_)); simp (disch := omega) only [↓LD, LU, loadA_rf, wpS_nil, wpS_a, wpS_n, wpS_g, ↓Bsel_true, ↓Bsel_false, frm_get, frm_getD, frm_set, look_cons, look_nil, List.set_cons_succ, List.set_cons_zero, List.getElem?_cons_succ, List.getElem?_cons_zero, ↓bind'_some, ↓Two_true, ↓Two_false, List.length_cons, List.length_nil, List.cons_append, List.nil_append, List.map_cons, List.map_nil, List.take_succ_cons, List.take_zero, List.drop_succ_cons, List.drop_zero, Option.map_some, Option.map_none, ↓reduceIte, Nat.reduceAdd, Nat.reduceMul, Nat.reduceSub, Nat.reduceLeDiff, Nat.reduceLT, Nat.reduceEqDiff, Nat.add_zero, Nat.zero_add, Nat.mul_one, Int.toNat_natCast, Nat.mul_zero, Nat.zero_mul, true_and, and_true, reduceCtorEq, Int.reduceNeg, Int.reduceLT, Int.reduceLE, Int.reduceEq, Int.reduceToNat, wrap_in, List.getElem?_drop, List.getElem?_map, List.length_map, if_some, most_eq, set_map_b, app_map_i, getElem?_some_of, Int.natCast_nonneg, Bool.false_eq_true, decide_true, decide_false, Bool.not_true, Bool.not_false, and_self, eq_self, false_implies, or_self, Bool.and_self, false_or, or_false, Bool.false_and, Bool.true_beq, Bool.false_beq, orN]) | ((with_reducible refine And.intro ?_ ?_); omega) | ((fail_if_success (with_reducible first | refine isHS ?_ | refine isRet ?_ | refine isCall ?_ | refine isNext ?_ | refine isNextP ?_ | refine isThen ?_ | refine isBlock ?_ | refine isOut ?_ | refine isOutN ?_)); (simp only [D.int, D.bool])))
        refine callW_emb (c_byte_CloneF y q hq (by omega)) [] (by kernel_rfl) rfl rfl ?_
        rintro _ _ ⟨rfl, rfl⟩
        repeat' (first | (with_reducible refine HS.seq ?_) | (with_reducible refine HS.opsK good (fun K hK => ?_)) | (with_reducible refine wpS_app (fun K hK => ?_)) | ((with_reducible refine hK _ ?_); clear hK K) | (with_reducible refine HS.drw good (fun K hK => ?_)) | ((with_reducible refine And.intro (Chk.mk' ?_) ?_); kernel_rfl) | (with_reducible refine HS.block ?_) | ((with_reducible refine HS.cond1 ?_ ?_); rfl) | ((with_reducible refine HS.cond0 ?_ ?_); rfl) | ((with_reducible apply HS.condB) <;> first | rfl | (with_reducible intro h)) | (with_reducible refine HS.exit ?_) | (with_reducible refine HS.ret ?_) | (with_reducible refine HS.skip ?_) | (with_reducible first | refine thenQ_n ?_ | refine blockQ_n ?_ | refine thenQ_r ?_ | refine blockQ_r ?_ | refine thenQ_x ?_ | refine blockQ_hit ?_ | refine endS_r ?_ | refine endS_n ?_) | ((with_reducible refine blockQ_miss ?_ ?_); rfl) | (with_reducible refine Two.mk' (fun h => ?_) (fun h => ?_) <;> try (exfalso; omega)) | ((with_reducible refine Bsel.mk' (fun h => ?_) (fun h => ?_)) <;> (try simp only [h])) | ((fail_if_success (with_reducible first | refine isHS ?_ | refine isRet ?_ | refine isCall ?_ | refine isNext ?_ | refine isNextP ?_ | refine isThen ?_ | refine isBlock ?_ | refine isOut ?_ | refine isOutN ?_)); simp (disch := omega) only [↓LD, LU, loadA_rf, wpS_nil, wpS_a, wpS_n, wpS_g, ↓Bsel_true, ↓Bsel_false, frm_get, frm_getD, frm_set, look_cons, look_nil, List.set_cons_succ, List.set_cons_zero, List.getElem?_cons_succ, List.getElem?_cons_zero, ↓bind'_some, ↓Two_true, ↓Two_false, List.length_cons, List.length_nil, List.cons_append, List.nil_append, List.map_cons, List.map_nil, List.take_succ_cons, List.take_zero, List.drop_succ_cons, List.drop_zero, Option.map_some, Option.map_none, ↓reduceIte, Nat.reduceAdd, Nat.reduceMul, Nat.reduceSub, Nat.reduceLeDiff, Nat.reduceLT, Nat.reduceEqDiff, Nat.add_zero, Nat.zero_add, Nat.mul_one, Int.toNat_natCast, Nat.mul_zero, Nat.zero_mul, true_and, and_true, reduceCtorEq, Int.reduceNeg, Int.reduceLT, Int.reduceLE, Int.reduceEq, Int.reduceToNat, wrap_in, List.getElem?_drop, List.getElem?_map, List.length_map, if_some, most_eq, set_map_b, app_map_i, getElem?_some_of, Int.natCast_nonneg, Bool.false_eq_true, decide_true, decide_false, Bool.not_true, Bool.not_false, and_self, eq_self, false_implies, or_self, Bool.and_self, false_or, or_false, Bool.false_and, Bool.true_beq, Bool.false_beq, List.append_nil]) | ((with_reducible refine And.intro ?_ ?_); omega) | ((fail_if_success (with_reducible first | refine isHS ?_ | refine isRet ?_ | refine isCall ?_ | refine isNext ?_ | refine isNextP ?_ | refine isThen ?_ | refine isBlock ?_ | refine isOut ?_ | refine isOutN ?_)); (simp only [D.int, D.bool])))
        exact endA rfl rfl ⟨rfl, rfl⟩
    · repeat' (first | (with_reducible refine HS.seq ?_) | (with_reducible refine HS.opsK good (fun K hK => ?_)) | (with_reducible refine wpS_app (fun K hK => ?_)) | ((with_reducible refine hK _ ?_); clear hK K) | (with_reducible refine HS.drw good (fun K hK => ?_)) | ((with_reducible refine And.intro (Chk.mk' ?_) ?_); kernel_rfl) | (with_reducible refine HS.block ?_) | ((with_reducible refine HS.cond1 ?_ ?_); rfl) | ((with_reducible refine HS.cond0 ?_ ?_); rfl) | ((with_reducible apply HS.condB) <;> first | rfl | (with_reducible intro h)) | (with_reducible refine HS.exit ?_) | (with_reducible refine HS.ret ?_) | (with_reducible refine HS.skip ?_) | (with_reducible first | refine thenQ_n ?_ | refine blockQ_n ?_ | refine thenQ_r ?_ | refine blockQ_r ?_ | refine thenQ_x ?_ | refine blockQ_hit ?_ | refine endS_r ?_ | refine endS_n ?_) | ((with_reducible refine blockQ_miss ?_ ?_); rfl) | (with_reducible refine Two.mk' (fun h => ?_) (fun h => ?_) <;> try (exfalso; omega)) | ((with_reducible refine Bsel.mk' (fun h => ?_) (fun h => ?_)) <;> (try simp only [h])) | ((fail_if_success (with_reducible first | refine isHS ?_ | refine isRet ?_ | refine isCall ?_ | refine isNext ?_ | refine isNextP ?_ | refine isThen ?_ | refine isBlock ?_ | refine isOut ?_ | refine isOutN ?_)); simp (disch := omega) only [↓LD, LU, loadA_rf, wpS_nil, wpS_a, wpS_n, wpS_g, ↓Bsel_true, ↓Bsel_false, frm_get, frm_getD, frm_set, look_cons, look_nil, List.set_cons_succ, List.set_cons_zero, List.getElem?_cons_succ, List.getElem?_cons_zero, ↓bind'_some, ↓Two_true, ↓Two_false, List.length_cons, List.length_nil, List.cons_append, List.nil_append, List.map_cons, List.map_nil, List.take_succ_cons, List.take_zero, List.drop_succ_cons, List.drop_zero, Option.map_some, Option.map_none, ↓reduceIte, Nat.reduceAdd, Nat.reduceMul, Nat.reduceSub, Nat.reduceLeDiff, Nat.reduceLT, Nat.reduceEqDiff, Nat.add_zero, Nat.zero_add, Nat.mul_one, Int.toNat_natCast, Nat.mul_zero, Nat.zero_mul, true_and, and_true, reduceCtorEq, Int.reduceNeg, Int.reduceLT, Int.reduceLE, Int.reduceEq, Int.reduceToNat, wrap_in, List.getElem?_drop, List.getElem?_map, List.length_map, if_some, most_eq, set_map_b, app_map_i, getElem?_some_of, Int.natCast_nonneg, Bool.false_eq_true, decide_true, decide_false, Bool.not_true, Bool.not_false, and_self, eq_self, false_implies, or_self, Bool.and_self, false_or, or_false, Bool.false_and, Bool.true_beq, Bool.false_beq, dkR, dkB, dkP]) | ((with_reducible refine And.intro ?_ ?_); omega) | ((fail_if_success (with_reducible first | refine isHS ?_ | refine isRet ?_ | refine isCall ?_ | refine isNext ?_ | refine isNextP ?_ | refine isThen ?_ | refine isBlock ?_ | refine isOut ?_ | refine isOutN ?_)); (simp only [D.int, D.bool])))
      exact endA rfl rfl ⟨rfl, rfl⟩

/-- A file of these bytes: none, if there are none. -/
def opt (a : List UInt8) : Option (List UInt8) := if a = [] then none else some a
def eAB (a b : List UInt8) : Fs := fDo (fDo [] 0 a) 1 b
theorem eAB_0 (a b : List UInt8) : fGet (eAB a b) 0 = opt a := by
  cases a <;> cases b <;> simp [eAB, fDo, fPut, fGet, fDel, opt]
theorem eAB_1 (a b : List UInt8) : fGet (eAB a b) 1 = opt b := by
  cases a <;> cases b <;> simp [eAB, fDo, fPut, fGet, fDel, opt]
theorem eAB_2 (a b : List UInt8) : fGet (eAB a b) 2 = none := by
  cases a <;> cases b <;> simp [eAB, fDo, fPut, fGet, fDel, opt]
theorem eAB_ok (a b : List UInt8) (B : Nat) (ha : a.length ≤ B) (hb : b.length ≤ B) : FsOk (eAB a b) B := by
  intro p hp
  cases a <;> cases b <;> simp [eAB, fDo, fPut, fGet, fDel] at hp
  · subst hp; exact ⟨by simp, hb⟩
  · subst hp; exact ⟨by simp, ha⟩
  · rcases hp with rfl | rfl
    · exact ⟨by simp, ha⟩
    · exact ⟨by simp, hb⟩
theorem eA_1 (a : List UInt8) : fGet (fDo [] 0 a) 1 = none := by
  cases a <;> simp [fDo, fPut, fGet, fDel]
theorem eA_ok (a : List UInt8) (B : Nat) (ha : a.length ≤ B) : FsOk (fDo [] 0 a) B := by
  intro p hp
  cases a <;> simp [fDo, fPut, fGet, fDel] at hp
  subst hp; exact ⟨by simp, ha⟩
theorem orN_none : orN none = .f (.v (.slice none 0 0)) := id rfl
theorem elemsS_opt {H : List Row} {a : List UInt8} : elemsS H 1 (orN (opt a)) = some (a.length, a.map uF) := by
  cases a <;> simp [opt, orN, elemsS, fY]
theorem elemsS_fY {H : List Row} {a : List UInt8} : elemsS H 1 (.f (fY a)) = some (a.length, a.map uF) := id rfl
theorem bytes_map : ∀ a : List UInt8, bytesOf? ((a.map uF).map .f) = some a
  | [] => rfl
  | x :: a => by
    have ih := bytes_map a
    simp only [List.map_cons, bytesOf?, ih, Option.map_some]
    simp
end Go.Proofs.Ytjbkckhpoicaeaa.Mir

/- DiskOrder: what a crash leaves of works on one file, in plain lists. -/
namespace Go.Proofs.Ytjbkckhpoicaeaa.Mir
open Go Go.RowKit
set_option linter.unusedVariables false
set_option linter.unusedSimpArgs false

def BB (l : List UInt8) : ByteArray := ⟨l.toArray⟩
theorem bb_size {l : List UInt8} : (BB l).size = l.length := by simp [BB, ByteArray.size]
theorem bb_app {l m : List UInt8} : BB l ++ BB m = BB (l ++ m) := by
  apply ByteArray.ext
  simp [BB, ByteArray.data_append]
theorem bb_take {l : List UInt8} {k : Nat} : (BB l).extract 0 k = BB (l.take k) := by
  apply ByteArray.ext
  simp [BB, ByteArray.data_extract]
theorem bb_inj {l m : List UInt8} : (BB l = BB m) = (l = m) := by
  apply propext
  constructor
  · intro h
    have := congrArg (fun b => b.data.toList) h
    simpa [BB] using this
  · rintro rfl; rfl
/-- The lists that are not empty, among the first i. -/
def neL (l : List (List UInt8)) (i : Nat) : List (List UInt8) := (l.take i).filter (fun b => !b.isEmpty)
theorem neL_0 {l : List (List UInt8)} : neL l 0 = [] := rfl
theorem neL_nil {l : List (List UInt8)} {i : Nat} (hi : i < l.length) (h : gt l i = []) : neL l (i + 1) = neL l i := by
  rw [gt_eq hi] at h
  unfold neL
  rw [List.take_add_one, List.filter_append, List.getElem?_eq_getElem hi, h]
  simp
theorem neL_cons {l : List (List UInt8)} {i : Nat} (hi : i < l.length) (h : gt l i ≠ []) : neL l (i + 1) = neL l i ++ [gt l i] := by
  rw [gt_eq hi] at h ⊢
  unfold neL
  rw [List.take_add_one, List.filter_append, List.getElem?_eq_getElem hi]
  simp [h]
theorem neL_len {l : List (List UInt8)} {i : Nat} : (neL l i).length ≤ i := by
  unfold neL
  refine Nat.le_trans (List.length_filter_le _ _) ?_
  rw [List.length_take]; omega
theorem neL_mem {l : List (List UInt8)} {i : Nat} {b : List UInt8} (h : b ∈ neL l i) : b ∈ l ∧ b ≠ [] := by
  unfold neL at h
  rw [List.mem_filter] at h
  refine ⟨List.mem_of_mem_take h.1, ?_⟩
  rintro rfl
  simp at h
theorem flat_len {m : Nat} : ∀ {l : List (List UInt8)}, (∀ b ∈ l, b.length ≤ m) → l.flatten.length ≤ l.length * m
  | [], _ => by simp
  | b :: l, h => by
    have h1 := h b (by simp)
    have h2 := flat_len (m := m) (l := l) fun c hc => h c (by simp [hc])
    simp only [List.flatten_cons, List.length_append, List.length_cons, Nat.add_mul]
    omega
theorem neL_flat {l : List (List UInt8)} {m : Nat} (h : ∀ b ∈ l, b.length ≤ m) (i : Nat) : (neL l i).flatten.length ≤ i * m :=
  Nat.le_trans (flat_len fun b hb => h b (neL_mem hb).1) (Nat.mul_le_mul_right m neL_len)
/-- Where each one ends. -/
def endsN (n : List (List UInt8)) : List Int := (List.range n.length).map fun j => ((n.take (j + 1)).flatten.length : Int)
theorem endsN_len {n : List (List UInt8)} : (endsN n).length = n.length := by simp [endsN]
theorem endsN_app {n : List (List UInt8)} {b : List UInt8} : endsN (n ++ [b]) = endsN n ++ [((n ++ [b]).flatten.length : Int)] := by
  unfold endsN
  rw [List.length_append, List.length_singleton, List.range_succ, List.map_append]
  congr 1
  · apply List.map_congr_left
    intro j hj
    rw [List.mem_range] at hj
    rw [List.take_append_of_le_length (by omega)]
  · simp only [List.map_cons, List.map_nil]
    rw [List.take_of_length_le (by simp)]
theorem endsN_at {n : List (List UInt8)} {j : Nat} (h : j < n.length) : (endsN n)[j]? = some ((n.take (j + 1)).flatten.length : Int) := by
  unfold endsN
  rw [List.getElem?_map, List.getElem?_range h]; rfl

def wks (n : List (List UInt8)) : List Wk := n.map fun b => ⟨0, b⟩
theorem wks_len {n : List (List UInt8)} : (wks n).length = n.length := by simp [wks]
theorem wks_at {n : List (List UInt8)} {i : Nat} (h : i < n.length) : gt (wks n) i = ⟨0, gt n i⟩ := by
  rw [gt_eq (by rw [wks_len]; exact h), gt_eq h]
  simp [wks]
theorem wks_app {n : List (List UInt8)} {b : List UInt8} : wks (n ++ [b]) = wks n ++ [(⟨0, b⟩ : Wk)] := by simp [wks]
/-- The one file's bytes. -/
def f0 (s : List UInt8) : Fs := fDo [] 0 s
theorem f0_get {s : List UInt8} : fGet (f0 s) 0 = opt s := by
  cases s <;> simp [f0, fDo, fPut, fGet, fDel, opt]
theorem f0_do {s b : List UInt8} (h : b ≠ []) : fDo (f0 s) 0 b = f0 (s ++ b) := by
  cases s <;> simp [f0, fDo, fPut, fGet, fDel, h]
theorem f0_ok {s : List UInt8} {B : Nat} (h : s.length ≤ B) : FsOk (f0 s) B := eA_ok s B h
/-- The part of the k-th. -/
def partL (n : List (List UInt8)) (p : Nat) (cut : Int) : List UInt8 := if p < n.length then (gt n p).take (restN cut ((gt n p).length + 1 : Nat)).toNat else []
def preL (n : List (List UInt8)) (p : Nat) (cut : Int) (i : Nat) : List UInt8 := (n.take (min i p)).flatten ++ if p < i then partL n p cut else []
theorem crF_f0 {n : List (List UInt8)} (hn : ∀ b ∈ n, b ≠ []) (p : Nat) (cut : Int) : ∀ i, i ≤ n.length → crF [] (wks n) p cut i = f0 (preL n p cut i)
  | 0, _ => by simp [crF, preL, f0, fDo, fDel]
  | i + 1, h => by
    have hi : i < n.length := by omega
    have hne : gt n i ≠ [] := hn _ (by rw [gt_eq hi]; exact List.getElem_mem hi)
    have hpl : (gt n i).length ≠ 0 := fun e => hne (List.eq_nil_of_length_eq_zero e)
    rw [crF, crF_f0 hn p cut i (by omega), wks_at hi]
    unfold stepC
    dsimp only
    by_cases h1 : i < p
    · rw [if_pos (by omega), f0_do hne]
      congr 1
      unfold preL
      rw [if_neg (by omega), if_neg (by omega), show min i p = i by omega, show min (i + 1) p = i + 1 by omega, List.take_add_one, List.getElem?_eq_getElem hi, gt_eq hi, List.append_nil, List.append_nil, List.flatten_append]
      simp
    · rw [if_neg (by omega)]
      by_cases h2 : i = p
      · subst h2
        unfold preL
        rw [if_neg (show ¬ i < i by omega), if_pos (show i < i + 1 by omega), Nat.min_self, show min (i + 1) i = i by omega, List.append_nil]
        unfold partL
        rw [if_pos hi]
        by_cases h4 : (gt n i).take (restN cut ((gt n i).length + 1 : Nat)).toNat = []
        · rw [if_neg (fun h3 => h3.2.2 h4), h4, List.append_nil]
        · rw [if_pos ⟨rfl, hne, h4⟩, f0_do h4]
      · rw [if_neg (by omega)]
        unfold preL
        rw [if_pos (by omega), if_pos (by omega), show min (i + 1) p = min i p by omega]
theorem part_len {n : List (List UInt8)} {p : Nat} {cut : Int} : (partL n p cut).length ≤ (gt n p).length := by
  unfold partL
  split
  · rw [List.length_take]; omega
  · simp
theorem flat_split {n : List (List UInt8)} {p : Nat} (h : p < n.length) : n.flatten = (n.take p).flatten ++ gt n p ++ (n.drop (p + 1)).flatten := by
  have h1 : n = n.take p ++ n[p] :: n.drop (p + 1) := by simp
  rw [gt_eq h]
  have h2 : n.flatten = (n.take p ++ n[p] :: n.drop (p + 1)).flatten := by rw [← h1]
  rw [h2, List.flatten_append, List.flatten_cons, List.append_assoc]
theorem flat_upto {n : List (List UInt8)} {p : Nat} : n.flatten = (n.take p).flatten ++ (n.drop p).flatten := by
  rw [← List.flatten_append, List.take_append_drop]
theorem take_flat_len {n : List (List UInt8)} {p : Nat} : (n.take p).flatten.length ≤ n.flatten.length := by
  rw [flat_upto (n := n) (p := p), List.length_append]; omega
/-- What is there is a beginning of all. -/
theorem pre_take {n : List (List UInt8)} {p : Nat} {cut : Int} (hp : p ≤ n.length) : n.flatten.take (preL n p cut n.length).length = preL n p cut n.length := by
  unfold preL
  rw [show min n.length p = p by omega]
  by_cases h : p < n.length
  · rw [if_pos h]
    unfold partL
    rw [if_pos h, flat_split h, List.append_assoc, List.length_append, List.take_append, List.take_of_length_le (by omega)]
    congr 1
    rw [show (n.take p).flatten.length + ((gt n p).take (restN cut ((gt n p).length + 1 : Nat)).toNat).length - (n.take p).flatten.length = ((gt n p).take (restN cut ((gt n p).length + 1 : Nat)).toNat).length by omega]
    rw [List.take_append_of_le_length (by rw [List.length_take]; omega), List.length_take, List.take_eq_take_iff]
    omega
  · rw [if_neg h, List.append_nil, show p = n.length by omega, List.take_length, List.take_length]
theorem pre_len {n : List (List UInt8)} {p : Nat} {cut : Int} {i : Nat} (hi : i ≤ n.length) : (preL n p cut i).length ≤ n.flatten.length := by
  unfold preL
  by_cases h : p < i
  · rw [if_pos h, show min i p = p by omega, flat_split (n := n) (p := p) (by omega), List.length_append, List.length_append, List.length_append]
    have := part_len (n := n) (p := p) (cut := cut)
    omega
  · rw [if_neg h, List.append_nil]
    exact take_flat_len
theorem pre_least {n : List (List UInt8)} {p : Nat} {cut : Int} (hp : p ≤ n.length) : (n.take p).flatten.length ≤ (preL n p cut n.length).length := by
  unfold preL
  rw [show min n.length p = p by omega, List.length_append]; omega
theorem pre_most {n : List (List UInt8)} {p : Nat} {cut : Int} (hp : p < n.length) : (preL n p cut n.length).length ≤ (n.take (p + 1)).flatten.length := by
  unfold preL
  have := part_len (n := n) (p := p) (cut := cut)
  rw [show min n.length p = p by omega, List.length_append, if_pos hp, List.take_add_one, List.getElem?_eq_getElem hp]
  rw [gt_eq hp] at this
  simp only [Option.toList_some, List.flatten_append, List.length_append, List.flatten_cons, List.flatten_nil, List.length_nil]
  omega
end Go.Proofs.Ytjbkckhpoicaeaa.Mir

/- DiskFiles: files beside what is wanted of them, in plain lists. -/
namespace Go.Proofs.Ytjbkckhpoicaeaa.Mir
open Go Go.RowKit
set_option linter.unusedVariables false
set_option linter.unusedSimpArgs false

theorem fGet_put {k j : Int} {b : List UInt8} : ∀ {l : Fs}, fGet (fPut k b l) j = if j = k then some b else fGet l j
  | [] => by simp [fPut, fGet]
  | p :: l => by
    have ih := fGet_put (k := k) (j := j) (b := b) (l := l)
    unfold fPut
    split
    · rename_i h
      simp only [fGet, ← h]
      split <;> rfl
    · rename_i h
      simp only [fGet, ih]
      by_cases hj : j = p.1
      · rw [if_pos hj, if_pos hj, if_neg (fun e => h (by rw [← e, hj]))]
      · rw [if_neg hj, if_neg hj]
theorem put_keys {k : Int} {b : List UInt8} : ∀ {l : Fs} {x : Int}, x ∈ (fPut k b l).map (·.1) ↔ x = k ∨ x ∈ l.map (·.1)
  | [], x => by simp [fPut]
  | p :: l, x => by
    have ih := put_keys (k := k) (b := b) (l := l) (x := x)
    unfold fPut
    split
    · rename_i h
      simp only [List.map_cons, List.mem_cons, ← h]
      constructor
      · rintro (h1 | h1)
        · exact .inl h1
        · exact .inr (.inr h1)
      · rintro (h1 | h1 | h1)
        · exact .inl h1
        · exact .inl h1
        · exact .inr h1
    · simp only [List.map_cons, List.mem_cons, ih]
      constructor
      · rintro (h1 | h1 | h1)
        · exact .inr (.inl h1)
        · exact .inl h1
        · exact .inr (.inr h1)
      · rintro (h1 | h1 | h1)
        · exact .inr (.inl h1)
        · exact .inl h1
        · exact .inr (.inr h1)
theorem put_nodup {k : Int} {b : List UInt8} : ∀ {l : Fs}, (l.map (·.1)).Nodup → ((fPut k b l).map (·.1)).Nodup
  | [], _ => by simp [fPut]
  | p :: l, h => by
    rw [List.map_cons, List.nodup_cons] at h
    unfold fPut
    split
    · rename_i hk
      rw [List.map_cons, List.nodup_cons]
      exact ⟨by rw [hk]; exact h.1, h.2⟩
    · rename_i hk
      rw [List.map_cons, List.nodup_cons]
      refine ⟨fun hm => ?_, put_nodup h.2⟩
      rcases put_keys.1 hm with h1 | h1
      · exact hk h1.symm
      · exact h.1 h1
theorem get_none {k : Int} : ∀ {l : Fs}, fGet l k = none ↔ k ∉ l.map (·.1)
  | [] => by simp [fGet]
  | p :: l => by
    have ih := get_none (k := k) (l := l)
    unfold fGet
    split
    · rename_i h; simp [h]
    · rename_i h; simp only [ih, List.map_cons, List.mem_cons, not_or]; exact ⟨fun h1 => ⟨h, h1⟩, fun h1 => h1.2⟩
theorem del_none {k : Int} : ∀ {l : Fs}, fGet l k = none → fDel k l = l
  | [], _ => rfl
  | p :: l, h => by
    unfold fGet at h
    split at h
    · cases h
    · rename_i hk
      unfold fDel
      rw [if_neg hk, del_none h]
theorem del_keys {k x : Int} : ∀ {l : Fs}, x ∈ (fDel k l).map (·.1) → x ∈ l.map (·.1)
  | [], h => h
  | p :: l, h => by
    unfold fDel at h
    split at h
    · simp only [List.map_cons, List.mem_cons]; exact .inr h
    · rw [List.map_cons, List.mem_cons] at h ⊢
      rcases h with h | h
      · exact .inl h
      · exact .inr (del_keys h)
theorem del_nodup {k : Int} : ∀ {l : Fs}, (l.map (·.1)).Nodup → ((fDel k l).map (·.1)).Nodup
  | [], h => h
  | p :: l, h => by
    rw [List.map_cons, List.nodup_cons] at h
    unfold fDel
    split
    · exact h.2
    · rw [List.map_cons, List.nodup_cons]
      exact ⟨fun hm => h.1 (del_keys hm), del_nodup h.2⟩
theorem fGet_del {k j : Int} : ∀ {l : Fs}, (l.map (·.1)).Nodup → fGet (fDel k l) j = if j = k then none else fGet l j
  | [], _ => by simp [fDel, fGet]
  | p :: l, h => by
    rw [List.map_cons, List.nodup_cons] at h
    have ih := fGet_del (k := k) (j := j) (l := l) h.2
    unfold fDel
    split
    · rename_i hk
      by_cases hj : j = k
      · rw [if_pos hj, get_none, hj, hk]; exact h.1
      · rw [if_neg hj, fGet, if_neg (by rw [← hk]; exact hj)]
    · rename_i hk
      simp only [fGet, ih]
      by_cases hj : j = p.1
      · rw [if_pos hj, if_pos hj, if_neg (fun e => hk (by rw [← e, hj]))]
      · rw [if_neg hj, if_neg hj]
theorem get_mem {k : Int} {b : List UInt8} : ∀ {l : Fs}, (l.map (·.1)).Nodup → (k, b) ∈ l → fGet l k = some b
  | p :: l, h, hm => by
    rw [List.map_cons, List.nodup_cons] at h
    unfold fGet
    rcases List.mem_cons.1 hm with h1 | h1
    · rw [← h1, if_pos rfl]
    · rw [if_neg, get_mem h.2 h1]
      intro e
      exact h.1 (List.mem_map.2 ⟨_, h1, e⟩)
theorem pw_ext : ∀ {l m : List Int}, l.Pairwise (· < ·) → m.Pairwise (· < ·) → (∀ x, x ∈ l ↔ x ∈ m) → l = m
  | [], [], _, _, _ => rfl
  | [], y :: m, _, _, h => by have := (h y).2 (by simp); cases this
  | x :: l, [], _, _, h => by have := (h x).1 (by simp); cases this
  | x :: l, y :: m, hl, hm, h => by
    rw [List.pairwise_cons] at hl hm
    have hxy : x = y := by
      have h1 := (h x).1 (by simp)
      have h2 := (h y).2 (by simp)
      rcases List.mem_cons.1 h1 with h1 | h1
      · exact h1
      · rcases List.mem_cons.1 h2 with h2 | h2
        · exact h2.symm
        · have := hm.1 _ h1; have := hl.1 _ h2; omega
    subst hxy
    rw [pw_ext hl.2 hm.2 fun z => ?_]
    constructor
    · intro hz
      rcases List.mem_cons.1 ((h z).1 (by simp [hz])) with h1 | h1
      · have := hl.1 z hz; omega
      · exact h1
    · intro hz
      rcases List.mem_cons.1 ((h z).2 (by simp [hz])) with h1 | h1
      · have := hm.1 z hz; omega
      · exact h1
/-- Files as they are wanted, of the first m numbers. -/
structure FW (m : Nat) (B : Nat) (e : Fs) (w : List (List UInt8)) : Prop where
  len : w.length = m
  nd : (e.map (·.1)).Nodup
  keys : ∀ x : Int, x ∈ e.map (fun p => p.1) → 0 ≤ x ∧ x < (m : Int)
  get : ∀ k, k < m → fGet e k = opt (gt w k)
  size : ∀ b ∈ w, b.length ≤ B
theorem FW.nil (m B : Nat) : FW m B [] (List.replicate m []) := by
  refine ⟨List.length_replicate, List.nodup_nil, fun x hx => (by cases hx), fun k hk => ?_, fun b hb => by rw [List.eq_of_mem_replicate hb]; simp⟩
  rw [gt_eq (by simpa using hk)]
  simp [fGet, opt]
theorem FW.mono {m B B' : Nat} {e : Fs} {w : List (List UInt8)} (h : FW m B e w) (hb : B ≤ B') : FW m B' e w := ⟨h.len, h.nd, h.keys, h.get, fun b hb' => Nat.le_trans (h.size b hb') hb⟩
theorem FW.at {m B : Nat} {e : Fs} {w : List (List UInt8)} (h : FW m B e w) {k : Nat} (hk : k < m) : (gt w k).length ≤ B := h.size _ (gt_mem' (by rw [h.len]; exact hk))
where
  gt_mem' {l : List (List UInt8)} {k : Nat} (h : k < l.length) : gt l k ∈ l := by rw [gt_eq h]; exact List.getElem_mem h
theorem gt_set' {l : List (List UInt8)} {i j : Nat} {x : List UInt8} (hi : i < l.length) : gt (l.set i x) j = if i = j then x else gt l j := by
  unfold gt
  by_cases h : i = j
  · subst h
    rw [if_pos rfl, getElem!_pos _ i (by rw [List.length_set]; exact hi), List.getElem_set_self]
  · rw [if_neg h]
    by_cases hj : j < l.length
    · rw [getElem!_pos _ j (by rw [List.length_set]; exact hj), getElem!_pos _ j hj, List.getElem_set_ne h]
    · rw [getElem!_neg _ j (by rw [List.length_set]; exact hj), getElem!_neg _ j hj]
theorem opt_getD {a : List UInt8} : (opt a).getD [] = a := by
  unfold opt
  split
  · rename_i h; rw [h]; rfl
  · rfl
theorem FW.set {m B B' : Nat} {e : Fs} {w : List (List UInt8)} (h : FW m B e w) {k : Nat} (hk : k < m) {b : List UInt8} (hb : b ≠ []) (hB : B + b.length ≤ B') : FW m B' (fDo e k b) (w.set k (gt w k ++ b)) := by
  have hkw : k < w.length := by rw [h.len]; exact hk
  have hat := h.at hk
  have he : fDo e k b = fPut k (gt w k ++ b) e := by rw [fDo, if_neg hb, h.get k hk, opt_getD]
  rw [he]
  refine ⟨by rw [List.length_set]; exact h.len, put_nodup h.nd, fun x hx => ?_, fun j hj => ?_, fun c hc => ?_⟩
  · rcases put_keys.1 hx with rfl | hx
    · omega
    · exact h.keys x hx
  · rw [fGet_put, gt_set' hkw]
    by_cases hjk : j = k
    · subst hjk
      rw [if_pos rfl, if_pos rfl, opt, if_neg (by simp [hb])]
    · rw [if_neg (by omega), if_neg (by omega)]
      exact h.get j hj
  · rcases List.mem_or_eq_of_mem_set hc with hc | rfl
    · have := h.size c hc; omega
    · rw [List.length_append]; omega
theorem FW.same {m B : Nat} {e : Fs} {w : List (List UInt8)} (h : FW m B e w) {k : Nat} (hk : k < m) : w.set k (gt w k ++ []) = w := by
  have hkw : k < w.length := by rw [h.len]; exact hk
  rw [List.append_nil, gt_eq hkw]
  exact List.set_getElem_self hkw
theorem FW.del {m B : Nat} {e : Fs} {w : List (List UInt8)} (h : FW m B e w) {k : Nat} (hk : k < m) : FW m B (fDo e k []) (w.set k []) := by
  have hkw : k < w.length := by rw [h.len]; exact hk
  have he : fDo e k [] = fDel k e := by rw [fDo, if_pos rfl]
  rw [he]
  refine ⟨by rw [List.length_set]; exact h.len, del_nodup h.nd, fun x hx => h.keys x (del_keys hx), fun j hj => ?_, fun c hc => ?_⟩
  · rw [fGet_del h.nd, gt_set' hkw]
    by_cases hjk : j = k
    · subst hjk
      rw [if_pos rfl, if_pos rfl]; rfl
    · rw [if_neg (by omega), if_neg (by omega)]
      exact h.get j hj
  · rcases List.mem_or_eq_of_mem_set hc with hc | rfl
    · exact h.size c hc
    · simp
theorem FW.del0 {m B : Nat} {e : Fs} {w : List (List UInt8)} (h : FW m B e w) {k : Nat} (hk : k < m) (hn : fGet e k = none) : w.set k [] = w := by
  have h1 := h.get k hk
  rw [hn] at h1
  have h2 : gt w k = [] := by
    unfold opt at h1
    split at h1
    · assumption
    · cases h1
  have h3 : w[k]'(by rw [h.len]; exact hk) = [] := by rw [← gt_eq (by rw [h.len]; exact hk)]; exact h2
  have hkw : k < w.length := by rw [h.len]; exact hk
  have h5 : w.set k w[k] = w := List.set_getElem_self hkw
  rw [h3] at h5
  exact h5
theorem FW.ok {m B : Nat} {e : Fs} {w : List (List UInt8)} (h : FW m B e w) : FsOk e B := by
  rintro ⟨x, b⟩ hp
  have hx := h.keys x (List.mem_map.2 ⟨_, hp, rfl⟩)
  obtain ⟨k, rfl⟩ := Int.eq_ofNat_of_zero_le hx.1
  have h1 := get_mem h.nd hp
  rw [h.get k (by omega)] at h1
  have h2 := h.at (k := k) (by omega)
  unfold opt at h1
  split at h1
  · cases h1
  · rename_i hne
    injection h1 with h1
    rw [← h1]
    exact ⟨hne, h2⟩
/-- The numbers of those that are there. -/
def upTo (w : List (List UInt8)) (j : Nat) : List Nat := (List.range j).filter fun i => !(gt w i).isEmpty
def flL (w : List (List UInt8)) (m : Nat) : List Int := (upTo w m).map fun i : Nat => (i : Int)
theorem upTo_succ {w : List (List UInt8)} {j : Nat} : upTo w (j + 1) = if gt w j = [] then upTo w j else upTo w j ++ [j] := by
  unfold upTo
  rw [List.range_succ, List.filter_append]
  split
  · rename_i h; simp [h]
  · rename_i h; simp [h]
theorem upTo_pre {w : List (List UInt8)} : ∀ {m j : Nat}, j ≤ m → ∃ t, upTo w m = upTo w j ++ t
  | 0, j, h => by
    obtain rfl : j = 0 := by omega
    exact ⟨[], (List.append_nil _).symm⟩
  | m + 1, j, h => by
    by_cases hj : j = m + 1
    · subst hj; exact ⟨[], by simp⟩
    · obtain ⟨t, ht⟩ := upTo_pre (w := w) (m := m) (j := j) (by omega)
      rw [upTo_succ, ht]
      split
      · exact ⟨t, rfl⟩
      · exact ⟨t ++ [m], by simp⟩
theorem flL_at {w : List (List UInt8)} {m j : Nat} (hj : j < m) (h : gt w j ≠ []) : (upTo w j).length < (flL w m).length ∧ gt (flL w m) (upTo w j).length = j := by
  obtain ⟨t, ht⟩ := upTo_pre (w := w) (m := m) (j := j + 1) (by omega)
  rw [upTo_succ, if_neg h] at ht
  have e : flL w m = ((upTo w j).map fun i : Nat => (i : Int)) ++ (j : Int) :: t.map fun i : Nat => (i : Int) := by
    rw [flL, ht]; simp
  have hl : (upTo w j).length < (flL w m).length := by rw [e]; simp
  refine ⟨hl, ?_⟩
  rw [gt_eq hl]
  simp only [e]
  rw [List.getElem_append_right (by simp)]
  simp
theorem flL_len {w : List (List UInt8)} {m : Nat} : (flL w m).length = (upTo w m).length := by simp [flL]
theorem upTo_pw {w : List (List UInt8)} : ∀ m, (upTo w m).Pairwise (· < ·) := fun m => (List.pairwise_lt_range).filter _
theorem FW.files {m B : Nat} {e : Fs} {w : List (List UInt8)} (h : FW m B e w) : sortL (e.map (·.1)) = flL w m := by
  have hp := sortL_perm (e.map (·.1))
  refine pw_ext ?_ ?_ fun x => ?_
  · have h1 := sortL_rise (e.map (·.1))
    have h2 : (sortL (e.map (·.1))).Nodup := hp.symm.nodup h.nd
    exact (List.Pairwise.and h1 h2).imp (fun ⟨h3, h4⟩ => by omega)
  · exact List.pairwise_map.2 ((upTo_pw m).imp fun h => by omega)
  · rw [hp.mem_iff]
    constructor
    · intro hx
      have hk := h.keys x hx
      obtain ⟨k, rfl⟩ := Int.eq_ofNat_of_zero_le hk.1
      have h1 : gt w k ≠ [] := fun e' => by
        have h2 := h.get k (by omega)
        rw [e', opt, if_pos rfl] at h2
        exact get_none.1 h2 hx
      exact List.mem_map.2 ⟨k, List.mem_filter.2 ⟨List.mem_range.2 (by omega), by simp [h1]⟩, rfl⟩
    · intro hx
      obtain ⟨k, hk, rfl⟩ := List.mem_map.1 hx
      obtain ⟨hk1, hk2⟩ := List.mem_filter.1 hk
      have hk1 := List.mem_range.1 hk1
      refine Classical.byContradiction fun hn => ?_
      have h1 := get_none.2 hn
      rw [h.get k hk1, opt] at h1
      split at h1
      · rename_i h2; simp [h2] at hk2
      · cases h1
theorem FW.in' {m B : Nat} {e : Fs} {w : List (List UInt8)} (h : FW m B e w) (hm : m ≤ 1000) : KeysIn e := by
  refine ⟨?_, fun p hp => by have := h.keys p.1 (List.mem_map.2 ⟨p, hp, rfl⟩); omega⟩
  have h1 := sortL_len (e.map (·.1))
  rw [h.files, flL_len, List.length_map] at h1
  have h2 : (upTo w m).length ≤ m := Nat.le_trans (List.length_filter_le _ _) (by simp)
  omega
theorem FW.nil_iff {m B : Nat} {e : Fs} {w : List (List UInt8)} (h : FW m B e w) : (flL w m).length = e.length := by
  rw [← h.files, sortL_len, List.length_map]
end Go.Proofs.Ytjbkckhpoicaeaa.Mir
