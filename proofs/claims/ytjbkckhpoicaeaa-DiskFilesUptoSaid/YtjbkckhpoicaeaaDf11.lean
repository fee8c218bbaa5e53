/- Texts laid into one file: DiskE, MirSortG, MirSorted, DagS, DiskJ. -/
import Derived.Test.YtjbkckhpoicaeaaDf10
import Derived.Shelf.SlIterI.Nil
import Derived.Shelf.SlIter.Nil
import Derived.Shelf.SortM.Plain
import Derived.Shelf.SortM.SortNone
import Derived.Ground.GgzProg
import Derived.Ground.SlgmProg

/- The program's disk: a Crash that does nothing of what pends. -/
namespace Go.Proofs.Ytjbkckhpoicaeaa.Mir
open Go Go.RowKit
set_option linter.unusedVariables false
set_option linter.unusedSimpArgs false
set_option maxHeartbeats 2000000

theorem tmod_lt' {x n : Int} (hn : 0 < n) : x.tmod n < n := Int.tmod_lt_of_pos x hn
theorem tmod_gt' {x n : Int} (hn : 0 < n) : -n < x.tmod n := by
  have := Int.tmod_lt_of_pos (-x) hn
  rw [Int.neg_tmod] at this; omega
theorem c_disk_rest (x m : Int) (hx : -1000000000000 ≤ x ∧ x ≤ 1000000000000) (hm : 0 < m ∧ m ≤ 1000000000000) : Con Try.prog 56 [D.int x, D.int m] [] fun r H' => r = D.int ((x.tmod m + m).tmod m) ∧ H' = [] := by
  have h1 := tmod_lt' (x := x) hm.1
  have h2 := tmod_gt' (x := x) hm.1
  refine Con.walk good fn_disk_rest (by simp) ?_
  unfold s_disk_rest
  simp only [argsE, List.length_cons, List.length_nil, Nat.reduceAdd]
  repeat' (first | (with_reducible refine HS.seq ?_) | (with_reducible refine HS.opsK good (fun K hK => ?_)) | (with_reducible refine wpS_app (fun K hK => ?_)) | ((with_reducible refine hK _ ?_); clear hK K) | (with_reducible refine HS.drw good (fun K hK => ?_)) | ((with_reducible refine And.intro (Chk.mk' ?_) ?_); kernel_rfl) | (with_reducible refine HS.block ?_) | ((with_reducible refine HS.cond1 ?_ ?_); rfl) | ((with_reducible refine HS.cond0 ?_ ?_); rfl) | ((with_reducible apply HS.condB) <;> first | rfl | (with_reducible intro h)) | (with_reducible refine HS.exit ?_) | (with_reducible refine HS.ret ?_) | (with_reducible refine HS.skip ?_) | (with_reducible first | refine thenQ_n ?_ | refine blockQ_n ?_ | refine thenQ_r ?_ | refine blockQ_r ?_ | refine thenQ_x ?_ | refine blockQ_hit ?_ | refine endS_r ?_ | refine endS_n ?_) | ((with_reducible refine blockQ_miss ?_ ?_); rfl) | (with_reducible refine Two.mk' (fun h => ?_) (fun h => ?_) <;> try (exfalso; omega)) | ((with_reducible refine Bsel.mk' (fun h => ?_) (fun h => ?_)) <;> (try simp only [h])) | ((fail_if_success (with_reducible first | refine isHS ?_ | refine isRet ?_ | refine isCall ?_ | refine isNext ?_ | refine isNextP ?_ | refine isThen ?_ | refine isBlock ?_ | refine isOut ?_ | refine isOutN ?_)); simp (disch := omega) only [↓LD, LU, loadA_rf, wpS_nil, wpS_a, wpS_n, wpS_g, ↓Bsel_true, ↓Bsel_false, frm_get, frm_getD, frm_set, look_cons, look_nil, List.set_cons_succ, List.set_cons_zero, List.getElem?_cons_succ, List.getElem?_cons_zero, ↓bind'_some, ↓Two_true, ↓Two_false, List.length_cons, List.length_nil, List.cons_append, List.nil_append, List.map_cons, List.map_nil, List.take_succ_cons, List.take_zero, List.drop_succ_cons, List.drop_zero, Option.map_some, Option.map_none, ↓reduceIte, Nat.reduceAdd, Nat.reduceMul, Nat.reduceSub, Nat.reduceLeDiff, Nat.reduceLT, Nat.reduceEqDiff, Nat.add_zero, Nat.zero_add, Nat.mul_one, Int.toNat_natCast, Nat.mul_zero, Nat.zero_mul, true_and, and_true, reduceCtorEq, Int.reduceNeg, Int.reduceLT, Int.reduceLE, Int.reduceEq, Int.reduceToNat, wrap_in, List.getElem?_drop, List.getElem?_map, List.length_map, if_some, most_eq, set_map_b, app_map_i, getElem?_some_of, Int.natCast_nonneg, Bool.false_eq_true, decide_true, decide_false, Bool.not_true, Bool.not_false, and_self, eq_self, false_implies, or_self, Bool.and_self, false_or, or_false, Bool.false_and, Bool.true_beq, Bool.false_beq]) | ((with_reducible refine And.intro ?_ ?_); omega) | ((fail_if_success (with_reducible first | refine isHS ?_ | refine isRet ?_ | refine isCall ?_ | refine isNext ?_ | refine isNextP ?_ | refine isThen ?_ | refine isBlock ?_ | refine isOut ?_ | refine isOutN ?_)); (simp only [D.int, D.bool])))
  exact end1 rfl rfl (by kernel_rfl) .f ⟨rfl, rfl⟩
theorem c_rest0 (m : Int) (hm : 0 < m ∧ m ≤ 1000000000000) : Con Try.prog 56 [D.int 0, D.int m] [] fun r H' => r = D.int 0 ∧ H' = [] :=
  (c_disk_rest 0 m (by omega) hm).mono fun _ _ ⟨h1, h2⟩ => ⟨by rw [h1, Int.zero_tmod, Int.zero_add, Int.tmod_self], h2⟩
theorem wk_at0 {l : List Wk} {k : Nat} (hk : k < l.length) : (l.flatMap Wk.cs)[k * 2]? = some (iF (gt l k).k) := flat_at (j := 0) Wk.cs_len hk (by omega)
theorem wk_at1 {l : List Wk} {k : Nat} (hk : k < l.length) : (l.flatMap Wk.cs)[k * 2 + 1]? = some (fY (gt l k).b) := flat_at (j := 1) Wk.cs_len hk (by omega)
theorem wk_load {H : List Row} {r : Nat} {l : List Wk} {k : Nat} {T : TypeId} (hr : H[r]? = some (.data T (l.flatMap Wk.cs))) (hk : k < l.length) : loadA H 2 (.pt r (k * 2)) = some (.ag [D.int (gt l k).k, .f (fY (gt l k).b)]) := by
  have h1 := flat_take (cs := Wk.cs) (n := 2) Wk.cs_len hk
  have h2 : k * 2 + 2 ≤ ((l.flatMap Wk.cs).map D.f).length := by rw [List.length_map, flat_len' Wk.cs_len]; omega
  simp only [loadA, hr, Row.cells, if_pos h2]
  rw [← List.map_drop, ← List.map_take, h1]
  rfl
theorem wk_take {l : List Wk} {k : Nat} (hk : k < l.length) : ((l.flatMap Wk.cs).drop (k * 2)).take 2 = [iF (gt l k).k, fY (gt l k).b] := flat_take Wk.cs_len hk
/-- The rows behind a crash. -/
def dkC (e1 e2 : Fs) (n : Nat) (ws : List Wk) (works : Int) : List Row := match n with
  | 0 => [.box 76 [.mp 1, .mp 3, .f (.v (.slice none 0 0)), D.int (-1), D.bool false, D.int works], .map (mF e1), .map (mF e2), .map (mF e1)]
  | _ + 1 => [.box 76 [.mp 1, .mp 4, .f (.v (.slice none 0 0)), D.int (-1), D.bool false, D.int works], .map (mF e1), .map (mF e2), .data 79 (ws.flatMap Wk.cs), .map (mF e1)]
set_option maxRecDepth 100000 in
theorem c_disk_Crash00 (e1 e2 : Fs) (n : Nat) (ws : List Wk) (fuse : Int) (dead : Bool) (works : Int) (hn : ws.length = n) (hn2 : n ≤ 1000000) (hws : ∀ w ∈ ws, w.b.length ≤ 1000000000) :
    Con Try.prog 24 [.pt 0 0, D.int 0, D.int 0] (dkR e1 e2 n ws fuse dead works) fun r H' => r = .tp [] ∧ H' = dkC e1 e2 n ws works := by
  refine Con.walk good fn_disk_Crash (by simp) ?_
  unfold s_disk_Crash
  simp only [argsE, List.length_cons, List.length_nil, Nat.reduceAdd]
  rcases n with _ | n
  · repeat' (first | (with_reducible refine HS.seq ?_) | (with_reducible refine HS.opsK good (fun K hK => ?_)) | (with_reducible refine wpS_app (fun K hK => ?_)) | ((with_reducible refine hK _ ?_); clear hK K) | (with_reducible refine HS.drw good (fun K hK => ?_)) | ((with_reducible refine And.intro (Chk.mk' ?_) ?_); kernel_rfl) | (with_reducible refine HS.block ?_) | ((with_reducible refine HS.cond1 ?_ ?_); rfl) | ((with_reducible refine HS.cond0 ?_ ?_); rfl) | ((with_reducible apply HS.condB) <;> first | rfl | (with_reducible intro h)) | (with_reducible refine HS.exit ?_) | (with_reducible refine HS.ret ?_) | (with_reducible refine HS.skip ?_) | (with_reducible first | refine thenQ_n ?_ | refine blockQ_n ?_ | refine thenQ_r ?_ | refine blockQ_r ?_ | refine thenQ_x ?_ | refine blockQ_hit ?_ | refine endS_r ?_ | refine endS_n ?_) | ((with_reducible refine blockQ_miss ?_ ?_); rfl) | (with_reducible refine Two.mk' (fun h => ?_) (fun h => ?_) <;> try (exfalso; omega)) | ((with_reducible refine Bsel.mk' (fun h => ?_) (fun h => ?_)) <;> (try simp only [h])) | ((fail_if_success (with_reducible first | refine isHS ?_ | refine isRet ?_ | refine isCall ?_ | refine isNext ?_ | refine isNextP ?_ | refine isThen ?_ | refine isBlock ?_ | refine isOut ?_ | refine isOutN ?_)); simp (disch := omega) only [↓LD, LU, loadA_rf, wpS_nil, wpS_a, wpS_n, wpS_g, ↓Bsel_true, ↓Bsel_false, frm_get, frm_getD, frm_set, look_cons, look_nil, List.set_cons_succ, List.set_cons_zero, List.getElem?_cons_succ, List.getElem?_cons_zero, ↓bind'_some, ↓Two_true, ↓Two_false, List.length_cons, List.length_nil, List.cons_append, List.nil_append, List.map_cons, List.map_nil, List.take_succ_cons, List.take_zero, List.drop_succ_cons, List.drop_zero, Option.map_some, Option.map_none, ↓reduceIte, Nat.reduceAdd, Nat.reduceMul, Nat.reduceSub, Nat.reduceLeDiff, Nat.reduceLT, Nat.reduceEqDiff, Nat.add_zero, Nat.zero_add, Nat.mul_one, Int.toNat_natCast, Nat.mul_zero, Nat.zero_mul, true_and, and_true, reduceCtorEq, Int.reduceNeg, Int.reduceLT, Int.reduceLE, Int.reduceEq, Int.reduceToNat, wrap_in, List.getElem?_drop, List.getElem?_map, List.length_map, if_some, most_eq, set_map_b, app_map_i, getElem?_some_of, Int.natCast_nonneg, Bool.false_eq_true, decide_true, decide_false, Bool.not_true, Bool.not_false, and_self, eq_self, false_implies, or_self, Bool.and_self, false_or, or_false, Bool.false_and, Bool.true_beq, Bool.false_beq, dkR, dkB, dkP]) | ((with_reducible refine And.intro ?_ ?_); omega) | ((fail_if_success (with_reducible first | refine isHS ?_ | refine isRet ?_ | refine isCall ?_ | refine isNext ?_ | refine isNextP ?_ | refine isThen ?_ | refine isBlock ?_ | refine isOut ?_ | refine isOutN ?_)); (simp only [D.int, D.bool])))
    refine callW_peek (c_rest0 _ (by omega)) (.cons .f (.cons .f .nil)) ?_ ?_
    · rintro _ _ ⟨rfl, rfl⟩
      exact ⟨.f .v, by simp⟩
    rintro _ _ ⟨rfl, rfl⟩
    repeat' (first | (with_reducible refine HS.seq ?_) | (with_reducible refine HS.opsK good (fun K hK => ?_)) | (with_reducible refine wpS_app (fun K hK => ?_)) | ((with_reducible refine hK _ ?_); clear hK K) | (with_reducible refine HS.drw good (fun K hK => ?_)) | ((with_reducible refine And.intro (Chk.mk' ?_) ?_); kernel_rfl) | (with_reducible refine HS.block ?_) | ((with_reducible refine HS.cond1 ?_ ?_); rfl) | ((with_reducible refine HS.cond0 ?_ ?_); rfl) | ((with_reducible apply HS.condB) <;> first | rfl | (with_reducible intro h)) | (with_reducible refine HS.exit ?_) | (with_reducible refine HS.ret ?_) | (with_reducible refine HS.skip ?_) | (with_reducible first | refine thenQ_n ?_ | refine blockQ_n ?_ | refine thenQ_r ?_ | refine blockQ_r ?_ | refine thenQ_x ?_ | refine blockQ_hit ?_ | refine endS_r ?_ | refine endS_n ?_) | ((with_reducible refine blockQ_miss ?_ ?_); rfl) | (with_reducible refine Two.mk' (fun h => ?_) (fun h => ?_) <;> try (exfalso; omega)) | ((with_reducible refine Bsel.mk' (fun h => ?_) (fun h => ?_)) <;> (try simp only [h])) | ((fail_if_success (with_reducible first | refine isHS ?_ | refine isRet ?_ | refine isCall ?_ | refine isNext ?_ | refine isNextP ?_ | refine isThen ?_ | refine isBlock ?_ | refine isOut ?_ | refine isOutN ?_)); simp (disch := omega) only [↓LD, LU, loadA_rf, wpS_nil, wpS_a, wpS_n, wpS_g, ↓Bsel_true, ↓Bsel_false, frm_get, frm_getD, frm_set, look_cons, look_nil, List.set_cons_succ, List.set_cons_zero, List.getElem?_cons_succ, List.getElem?_cons_zero, ↓bind'_some, ↓Two_true, ↓Two_false, List.length_cons, List.length_nil, List.cons_append, List.nil_append, List.map_cons, List.map_nil, List.take_succ_cons, List.take_zero, List.drop_succ_cons, List.drop_zero, Option.map_some, Option.map_none, ↓reduceIte, Nat.reduceAdd, Nat.reduceMul, Nat.reduceSub, Nat.reduceLeDiff, Nat.reduceLT, Nat.reduceEqDiff, Nat.add_zero, Nat.zero_add, Nat.mul_one, Int.toNat_natCast, Nat.mul_zero, Nat.zero_mul, true_and, and_true, reduceCtorEq, Int.reduceNeg, Int.reduceLT, Int.reduceLE, Int.reduceEq, Int.reduceToNat, wrap_in, List.getElem?_drop, List.getElem?_map, List.length_map, if_some, most_eq, set_map_b, app_map_i, getElem?_some_of, Int.natCast_nonneg, Bool.false_eq_true, decide_true, decide_false, Bool.not_true, Bool.not_false, and_self, eq_self, false_implies, or_self, Bool.and_self, false_or, or_false, Bool.false_and, Bool.true_beq, Bool.false_beq, List.append_nil, List.map_nil]) | ((with_reducible refine And.intro ?_ ?_); omega) | ((fail_if_success (with_reducible first | refine isHS ?_ | refine isRet ?_ | refine isCall ?_ | refine isNext ?_ | refine isNextP ?_ | refine isThen ?_ | refine isBlock ?_ | refine isOut ?_ | refine isOutN ?_)); (simp only [D.int, D.bool])))
    refine HS.loopG [0, 2, 6, 21, 22, 23] (fun _ : Unit => ⟨frm 87 [(0, .pt 0 0), (2, D.int 0), (6, D.int 0), (21, .f (.v (.slice none 0 0))), (22, D.int 0), (23, D.int 0)], dkR e1 e2 0 ws fuse dead works, []⟩)
      (fun _ => True) (fun _ => 0) () (by kernel_rfl) trivial ?_
    rintro _ _
    repeat' (first | (with_reducible refine HS.seq ?_) | (with_reducible refine HS.opsK good (fun K hK => ?_)) | (with_reducible refine wpS_app (fun K hK => ?_)) | ((with_reducible refine hK _ ?_); clear hK K) | (with_reducible refine HS.drw good (fun K hK => ?_)) | ((with_reducible refine And.intro (Chk.mk' ?_) ?_); kernel_rfl) | (with_reducible refine HS.block ?_) | ((with_reducible refine HS.cond1 ?_ ?_); rfl) | ((with_reducible refine HS.cond0 ?_ ?_); rfl) | ((with_reducible apply HS.condB) <;> first | rfl | (with_reducible intro h)) | (with_reducible refine HS.exit ?_) | (with_reducible refine HS.ret ?_) | (with_reducible refine HS.skip ?_) | (with_reducible first | refine thenQ_n ?_ | refine blockQ_n ?_ | refine thenQ_r ?_ | refine blockQ_r ?_ | refine thenQ_x ?_ | refine blockQ_hit ?_ | refine endS_r ?_ | refine endS_n ?_) | ((with_reducible refine blockQ_miss ?_ ?_); rfl) | (with_reducible refine Two.mk' (fun h => ?_) (fun h => ?_) <;> try (exfalso; omega)) | ((with_reducible refine Bsel.mk' (fun h => ?_) (fun h => ?_)) <;> (try simp only [h])) | ((fail_if_success (with_reducible first | refine isHS ?_ | refine isRet ?_ | refine isCall ?_ | refine isNext ?_ | refine isNextP ?_ | refine isThen ?_ | refine isBlock ?_ | refine isOut ?_ | refine isOutN ?_)); simp (disch := omega) only [↓LD, LU, loadA_rf, wpS_nil, wpS_a, wpS_n, wpS_g, ↓Bsel_true, ↓Bsel_false, frm_get, frm_getD, frm_set, look_cons, look_nil, List.set_cons_succ, List.set_cons_zero, List.getElem?_cons_succ, List.getElem?_cons_zero, ↓bind'_some, ↓Two_true, ↓Two_false, List.length_cons, List.length_nil, List.cons_append, List.nil_append, List.map_cons, List.map_nil, List.take_succ_cons, List.take_zero, List.drop_succ_cons, List.drop_zero, Option.map_some, Option.map_none, ↓reduceIte, Nat.reduceAdd, Nat.reduceMul, Nat.reduceSub, Nat.reduceLeDiff, Nat.reduceLT, Nat.reduceEqDiff, Nat.add_zero, Nat.zero_add, Nat.mul_one, Int.toNat_natCast, Nat.mul_zero, Nat.zero_mul, true_and, and_true, reduceCtorEq, Int.reduceNeg, Int.reduceLT, Int.reduceLE, Int.reduceEq, Int.reduceToNat, wrap_in, List.getElem?_drop, List.getElem?_map, List.length_map, if_some, most_eq, set_map_b, app_map_i, getElem?_some_of, Int.natCast_nonneg, Bool.false_eq_true, decide_true, decide_false, Bool.not_true, Bool.not_false, and_self, eq_self, false_implies, or_self, Bool.and_self, false_or, or_false, Bool.false_and, Bool.true_beq, Bool.false_beq, dkR, dkB, dkP]) | ((with_reducible refine And.intro ?_ ?_); omega) | ((fail_if_success (with_reducible first | refine isHS ?_ | refine isRet ?_ | refine isCall ?_ | refine isNext ?_ | refine isNextP ?_ | refine isThen ?_ | refine isBlock ?_ | refine isOut ?_ | refine isOutN ?_)); (simp only [D.int, D.bool])))
    refine callW_emb (c_mapClone e1) [1] (by kernel_rfl) rfl rfl ?_
    rintro _ _ ⟨rfl, rfl⟩
    repeat' (first | (with_reducible refine HS.seq ?_) | (with_reducible refine HS.opsK good (fun K hK => ?_)) | (with_reducible refine wpS_app (fun K hK => ?_)) | ((with_reducible refine hK _ ?_); clear hK K) | (with_reducible refine HS.drw good (fun K hK => ?_)) | ((with_reducible refine And.intro (Chk.mk' ?_) ?_); kernel_rfl) | (with_reducible refine HS.block ?_) | ((with_reducible refine HS.cond1 ?_ ?_); rfl) | ((with_reducible refine HS.cond0 ?_ ?_); rfl) | ((with_reducible apply HS.condB) <;> first | rfl | (with_reducible intro h)) | (with_reducible refine HS.exit ?_) | (with_reducible refine HS.ret ?_) | (with_reducible refine HS.skip ?_) | (with_reducible first | refine thenQ_n ?_ | refine blockQ_n ?_ | refine thenQ_r ?_ | refine blockQ_r ?_ | refine thenQ_x ?_ | refine blockQ_hit ?_ | refine endS_r ?_ | refine endS_n ?_) | ((with_reducible refine blockQ_miss ?_ ?_); rfl) | (with_reducible refine Two.mk' (fun h => ?_) (fun h => ?_) <;> try (exfalso; omega)) | ((with_reducible refine Bsel.mk' (fun h => ?_) (fun h => ?_)) <;> (try simp only [h])) | ((fail_if_success (with_reducible first | refine isHS ?_ | refine isRet ?_ | refine isCall ?_ | refine isNext ?_ | refine isNextP ?_ | refine isThen ?_ | refine isBlock ?_ | refine isOut ?_ | refine isOutN ?_)); simp (disch := omega) only [↓LD, LU, loadA_rf, wpS_nil, wpS_a, wpS_n, wpS_g, ↓Bsel_true, ↓Bsel_false, frm_get, frm_getD, frm_set, look_cons, look_nil, List.set_cons_succ, List.set_cons_zero, List.getElem?_cons_succ, List.getElem?_cons_zero, ↓bind'_some, ↓Two_true, ↓Two_false, List.length_cons, List.length_nil, List.cons_append, List.nil_append, List.map_cons, List.map_nil, List.take_succ_cons, List.take_zero, List.drop_succ_cons, List.drop_zero, Option.map_some, Option.map_none, ↓reduceIte, Nat.reduceAdd, Nat.reduceMul, Nat.reduceSub, Nat.reduceLeDiff, Nat.reduceLT, Nat.reduceEqDiff, Nat.add_zero, Nat.zero_add, Nat.mul_one, Int.toNat_natCast, Nat.mul_zero, Nat.zero_mul, true_and, and_true, reduceCtorEq, Int.reduceNeg, Int.reduceLT, Int.reduceLE, Int.reduceEq, Int.reduceToNat, wrap_in, List.getElem?_drop, List.getElem?_map, List.length_map, if_some, most_eq, set_map_b, app_map_i, getElem?_some_of, Int.natCast_nonneg, Bool.false_eq_true, decide_true, decide_false, Bool.not_true, Bool.not_false, and_self, eq_self, false_implies, or_self, Bool.and_self, false_or, or_false, Bool.false_and, Bool.true_beq, Bool.false_beq]) | ((with_reducible refine And.intro ?_ ?_); omega) | ((fail_if_success (with_reducible first | refine isHS ?_ | refine isRet ?_ | refine isCall ?_ | refine isNext ?_ | refine isNextP ?_ | refine isThen ?_ | refine isBlock ?_ | refine isOut ?_ | refine isOutN ?_)); (simp only [D.int, D.bool])))
    exact end0 ⟨rfl, rfl⟩
  · repeat' (first | (with_reducible refine HS.seq ?_) | (with_reducible refine HS.opsK good (fun K hK => ?_)) | (with_reducible refine wpS_app (fun K hK => ?_)) | ((with_reducible refine hK _ ?_); clear hK K) | (with_reducible refine HS.drw good (fun K hK => ?_)) | ((with_reducible refine And.intro (Chk.mk' ?_) ?_); kernel_rfl) | (with_reducible refine HS.block ?_) | ((with_reducible refine HS.cond1 ?_ ?_); rfl) | ((with_reducible refine HS.cond0 ?_ ?_); rfl) | ((with_reducible apply HS.condB) <;> first | rfl | (with_reducible intro h)) | (with_reducible refine HS.exit ?_) | (with_reducible refine HS.ret ?_) | (with_reducible refine HS.skip ?_) | (with_reducible first | refine thenQ_n ?_ | refine blockQ_n ?_ | refine thenQ_r ?_ | refine blockQ_r ?_ | refine thenQ_x ?_ | refine blockQ_hit ?_ | refine endS_r ?_ | refine endS_n ?_) | ((with_reducible refine blockQ_miss ?_ ?_); rfl) | (with_reducible refine Two.mk' (fun h => ?_) (fun h => ?_) <;> try (exfalso; omega)) | ((with_reducible refine Bsel.mk' (fun h => ?_) (fun h => ?_)) <;> (try simp only [h])) | ((fail_if_success (with_reducible first | refine isHS ?_ | refine isRet ?_ | refine isCall ?_ | refine isNext ?_ | refine isNextP ?_ | refine isThen ?_ | refine isBlock ?_ | refine isOut ?_ | refine isOutN ?_)); simp (disch := omega) only [↓LD, LU, loadA_rf, wpS_nil, wpS_a, wpS_n, wpS_g, ↓Bsel_true, ↓Bsel_false, frm_get, frm_getD, frm_set, look_cons, look_nil, List.set_cons_succ, List.set_cons_zero, List.getElem?_cons_succ, List.getElem?_cons_zero, ↓bind'_some, ↓Two_true, ↓Two_false, List.length_cons, List.length_nil, List.cons_append, List.nil_append, List.map_cons, List.map_nil, List.take_succ_cons, List.take_zero, List.drop_succ_cons, List.drop_zero, Option.map_some, Option.map_none, ↓reduceIte, Nat.reduceAdd, Nat.reduceMul, Nat.reduceSub, Nat.reduceLeDiff, Nat.reduceLT, Nat.reduceEqDiff, Nat.add_zero, Nat.zero_add, Nat.mul_one, Int.toNat_natCast, Nat.mul_zero, Nat.zero_mul, true_and, and_true, reduceCtorEq, Int.reduceNeg, Int.reduceLT, Int.reduceLE, Int.reduceEq, Int.reduceToNat, wrap_in, List.getElem?_drop, List.getElem?_map, List.length_map, if_some, most_eq, set_map_b, app_map_i, getElem?_some_of, Int.natCast_nonneg, Bool.false_eq_true, decide_true, decide_false, Bool.not_true, Bool.not_false, and_self, eq_self, false_implies, or_self, Bool.and_self, false_or, or_false, Bool.false_and, Bool.true_beq, Bool.false_beq, dkR, dkB, dkP]) | ((with_reducible refine And.intro ?_ ?_); omega) | ((fail_if_success (with_reducible first | refine isHS ?_ | refine isRet ?_ | refine isCall ?_ | refine isNext ?_ | refine isNextP ?_ | refine isThen ?_ | refine isBlock ?_ | refine isOut ?_ | refine isOutN ?_)); (simp only [D.int, D.bool])))
    refine callW_peek (c_rest0 _ (by omega)) (.cons .f (.cons .f .nil)) ?_ ?_
    · rintro _ _ ⟨rfl, rfl⟩
      exact ⟨.f .v, by simp⟩
    rintro _ _ ⟨rfl, rfl⟩
    repeat' (first | (with_reducible refine HS.seq ?_) | (with_reducible refine HS.opsK good (fun K hK => ?_)) | (with_reducible refine wpS_app (fun K hK => ?_)) | ((with_reducible refine hK _ ?_); clear hK K) | (with_reducible refine HS.drw good (fun K hK => ?_)) | ((with_reducible refine And.intro (Chk.mk' ?_) ?_); kernel_rfl) | (with_reducible refine HS.block ?_) | ((with_reducible refine HS.cond1 ?_ ?_); rfl) | ((with_reducible refine HS.cond0 ?_ ?_); rfl) | ((with_reducible apply HS.condB) <;> first | rfl | (with_reducible intro h)) | (with_reducible refine HS.exit ?_) | (with_reducible refine HS.ret ?_) | (with_reducible refine HS.skip ?_) | (with_reducible first | refine thenQ_n ?_ | refine blockQ_n ?_ | refine thenQ_r ?_ | refine blockQ_r ?_ | refine thenQ_x ?_ | refine blockQ_hit ?_ | refine endS_r ?_ | refine endS_n ?_) | ((with_reducible refine blockQ_miss ?_ ?_); rfl) | (with_reducible refine Two.mk' (fun h => ?_) (fun h => ?_) <;> try (exfalso; omega)) | ((with_reducible refine Bsel.mk' (fun h => ?_) (fun h => ?_)) <;> (try simp only [h])) | ((fail_if_success (with_reducible first | refine isHS ?_ | refine isRet ?_ | refine isCall ?_ | refine isNext ?_ | refine isNextP ?_ | refine isThen ?_ | refine isBlock ?_ | refine isOut ?_ | refine isOutN ?_)); simp (disch := omega) only [↓LD, LU, loadA_rf, wpS_nil, wpS_a, wpS_n, wpS_g, ↓Bsel_true, ↓Bsel_false, frm_get, frm_getD, frm_set, look_cons, look_nil, List.set_cons_succ, List.set_cons_zero, List.getElem?_cons_succ, List.getElem?_cons_zero, ↓bind'_some, ↓Two_true, ↓Two_false, List.length_cons, List.length_nil, List.cons_append, List.nil_append, List.map_cons, List.map_nil, List.take_succ_cons, List.take_zero, List.drop_succ_cons, List.drop_zero, Option.map_some, Option.map_none, ↓reduceIte, Nat.reduceAdd, Nat.reduceMul, Nat.reduceSub, Nat.reduceLeDiff, Nat.reduceLT, Nat.reduceEqDiff, Nat.add_zero, Nat.zero_add, Nat.mul_one, Int.toNat_natCast, Nat.mul_zero, Nat.zero_mul, true_and, and_true, reduceCtorEq, Int.reduceNeg, Int.reduceLT, Int.reduceLE, Int.reduceEq, Int.reduceToNat, wrap_in, List.getElem?_drop, List.getElem?_map, List.length_map, if_some, most_eq, set_map_b, app_map_i, getElem?_some_of, Int.natCast_nonneg, Bool.false_eq_true, decide_true, decide_false, Bool.not_true, Bool.not_false, and_self, eq_self, false_implies, or_self, Bool.and_self, false_or, or_false, Bool.false_and, Bool.true_beq, Bool.false_beq, List.append_nil, List.map_nil]) | ((with_reducible refine And.intro ?_ ?_); omega) | ((fail_if_success (with_reducible first | refine isHS ?_ | refine isRet ?_ | refine isCall ?_ | refine isNext ?_ | refine isNextP ?_ | refine isThen ?_ | refine isBlock ?_ | refine isOut ?_ | refine isOutN ?_)); (simp only [D.int, D.bool])))
    refine HS.loopG [0, 2, 6, 21, 22, 23] (fun i : Nat => ⟨frm 87 [(0, .pt 0 0), (2, D.int 0), (6, D.int 0), (21, .sl 3 0 (n + 1)), (22, D.int (n + 1 : Nat)), (23, D.int i)], dkR e1 e2 (n + 1) ws fuse dead works, []⟩)
      (fun i => i ≤ n + 1) (fun i => n + 1 - i) 0 (by kernel_rfl) (Nat.zero_le _) ?_
    rintro i hi
    have hfl : (ws.flatMap Wk.cs).length = (n + 1) * 2 := by rw [flat_len' Wk.cs_len, hn]
    have hwi : i < ws.length → (gt ws i).b.length ≤ 1000000000 := fun h => hws _ (by rw [gt_eq h]; exact List.getElem_mem h)
    repeat' (first | (with_reducible refine HS.seq ?_) | (with_reducible refine HS.opsK good (fun K hK => ?_)) | (with_reducible refine wpS_app (fun K hK => ?_)) | ((with_reducible refine hK _ ?_); clear hK K) | (with_reducible refine HS.drw good (fun K hK => ?_)) | ((with_reducible refine And.intro (Chk.mk' ?_) ?_); kernel_rfl) | (with_reducible refine HS.block ?_) | ((with_reducible refine HS.cond1 ?_ ?_); rfl) | ((with_reducible refine HS.cond0 ?_ ?_); rfl) | ((with_reducible apply HS.condB) <;> first | rfl | (with_reducible intro h)) | (with_reducible refine HS.exit ?_) | (with_reducible refine HS.ret ?_) | (with_reducible refine HS.skip ?_) | (with_reducible first | refine thenQ_n ?_ | refine blockQ_n ?_ | refine thenQ_r ?_ | refine blockQ_r ?_ | refine thenQ_x ?_ | refine blockQ_hit ?_ | refine endS_r ?_ | refine endS_n ?_) | ((with_reducible refine blockQ_miss ?_ ?_); rfl) | (with_reducible refine Two.mk' (fun h => ?_) (fun h => ?_) <;> try (exfalso; omega)) | ((with_reducible refine Bsel.mk' (fun h => ?_) (fun h => ?_)) <;> (try simp only [h])) | ((fail_if_success (with_reducible first | refine isHS ?_ | refine isRet ?_ | refine isCall ?_ | refine isNext ?_ | refine isNextP ?_ | refine isThen ?_ | refine isBlock ?_ | refine isOut ?_ | refine isOutN ?_)); simp (disch := omega) only [↓LD, LU, loadA_rf, wpS_nil, wpS_a, wpS_n, wpS_g, ↓Bsel_true, ↓Bsel_false, frm_get, frm_getD, frm_set, look_cons, look_nil, List.set_cons_succ, List.set_cons_zero, List.getElem?_cons_succ, List.getElem?_cons_zero, ↓bind'_some, ↓Two_true, ↓Two_false, List.length_cons, List.length_nil, List.cons_append, List.nil_append, List.map_cons, List.map_nil, List.take_succ_cons, List.take_zero, List.drop_succ_cons, List.drop_zero, Option.map_some, Option.map_none, ↓reduceIte, Nat.reduceAdd, Nat.reduceMul, Nat.reduceSub, Nat.reduceLeDiff, Nat.reduceLT, Nat.reduceEqDiff, Nat.add_zero, Nat.zero_add, Nat.mul_one, Int.toNat_natCast, Nat.mul_zero, Nat.zero_mul, true_and, and_true, reduceCtorEq, Int.reduceNeg, Int.reduceLT, Int.reduceLE, Int.reduceEq, Int.reduceToNat, wrap_in, List.getElem?_drop, List.getElem?_map, List.length_map, if_some, most_eq, set_map_b, app_map_i, getElem?_some_of, Int.natCast_nonneg, Bool.false_eq_true, decide_true, decide_false, Bool.not_true, Bool.not_false, and_self, eq_self, false_implies, or_self, Bool.and_self, false_or, or_false, Bool.false_and, Bool.true_beq, Bool.false_beq, dkR, dkB, dkP, hfl, wk_take, fY]) | ((with_reducible refine And.intro ?_ ?_); omega) | ((fail_if_success (with_reducible first | refine isHS ?_ | refine isRet ?_ | refine isCall ?_ | refine isNext ?_ | refine isNextP ?_ | refine isThen ?_ | refine isBlock ?_ | refine isOut ?_ | refine isOutN ?_)); (simp only [D.int, D.bool])))
    · have hwi' := hwi (by omega)
      refine callDr_peek (c_rest0 _ (by omega)) (.cons .f (.cons .f .nil)) ⟨.f .v, by simp⟩ ?_
      repeat' (first | (with_reducible refine HS.seq ?_) | (with_reducible refine HS.opsK good (fun K hK => ?_)) | (with_reducible refine wpS_app (fun K hK => ?_)) | ((with_reducible refine hK _ ?_); clear hK K) | (with_reducible refine HS.drw good (fun K hK => ?_)) | ((with_reducible refine And.intro (Chk.mk' ?_) ?_); kernel_rfl) | (with_reducible refine HS.block ?_) | ((with_reducible refine HS.cond1 ?_ ?_); rfl) | ((with_reducible refine HS.cond0 ?_ ?_); rfl) | ((with_reducible apply HS.condB) <;> first | rfl | (with_reducible intro h)) | (with_reducible refine HS.exit ?_) | (with_reducible refine HS.ret ?_) | (with_reducible refine HS.skip ?_) | (with_reducible first | refine thenQ_n ?_ | refine blockQ_n ?_ | refine thenQ_r ?_ | refine blockQ_r ?_ | refine thenQ_x ?_ | refine blockQ_hit ?_ | refine endS_r ?_ | refine endS_n ?_) | ((with_reducible refine blockQ_miss ?_ ?_); rfl) | (with_reducible refine Two.mk' (fun h => ?_) (fun h => ?_) <;> try (exfalso; omega)) | ((with_reducible refine Bsel.mk' (fun h => ?_) (fun h => ?_)) <;> (try simp only [h])) | ((fail_if_success (with_reducible first | refine isHS ?_ | refine isRet ?_ | refine isCall ?_ | refine isNext ?_ | refine isNextP ?_ | refine isThen ?_ | refine isBlock ?_ | refine isOut ?_ | refine isOutN ?_)); simp (disch := omega) only [↓LD, LU, loadA_rf, wpS_nil, wpS_a, wpS_n, wpS_g, ↓Bsel_true, ↓Bsel_false, frm_get, frm_getD, frm_set, look_cons, look_nil, List.set_cons_succ, List.set_cons_zero, List.getElem?_cons_succ, List.getElem?_cons_zero, ↓bind'_some, ↓Two_true, ↓Two_false, List.length_cons, List.length_nil, List.cons_append, List.nil_append, List.map_cons, List.map_nil, List.take_succ_cons, List.take_zero, List.drop_succ_cons, List.drop_zero, Option.map_some, Option.map_none, ↓reduceIte, Nat.reduceAdd, Nat.reduceMul, Nat.reduceSub, Nat.reduceLeDiff, Nat.reduceLT, Nat.reduceEqDiff, Nat.add_zero, Nat.zero_add, Nat.mul_one, Int.toNat_natCast, Nat.mul_zero, Nat.zero_mul, true_and, and_true, reduceCtorEq, Int.reduceNeg, Int.reduceLT, Int.reduceLE, Int.reduceEq, Int.reduceToNat, wrap_in, List.getElem?_drop, List.getElem?_map, List.length_map, if_some, most_eq, set_map_b, app_map_i, getElem?_some_of, Int.natCast_nonneg, Bool.false_eq_true, decide_true, decide_false, Bool.not_true, Bool.not_false, and_self, eq_self, false_implies, or_self, Bool.and_self, false_or, or_false, Bool.false_and, Bool.true_beq, Bool.false_beq, List.append_nil, List.map_nil, D.int]) | ((with_reducible refine And.intro ?_ ?_); omega) | ((fail_if_success (with_reducible first | refine isHS ?_ | refine isRet ?_ | refine isCall ?_ | refine isNext ?_ | refine isNextP ?_ | refine isThen ?_ | refine isBlock ?_ | refine isOut ?_ | refine isOutN ?_)); (simp only [D.int, D.bool])))
      exact Next.mk (i + 1) (by kernel_rfl) (by omega) (by omega)
    · exact Next.mk (i + 1) (by kernel_rfl) (by omega) (by omega)
    · exact Next.mk (i + 1) (by kernel_rfl) (by omega) (by omega)
    · refine callW_emb (c_mapClone e1) [1] (by kernel_rfl) rfl rfl ?_
      rintro _ _ ⟨rfl, rfl⟩
      repeat' (first | (with_reducible refine HS.seq ?_) | (with_reducible refine HS.opsK good (fun K hK => ?_)) | (with_reducible refine wpS_app (fun K hK => ?_)) | ((with_reducible refine hK _ ?_); clear hK K) | (with_reducible refine HS.drw good (fun K hK => ?_)) | ((with_reducible refine And.intro (Chk.mk' ?_) ?_); kernel_rfl) | (with_reducible refine HS.block ?_) | ((with_reducible refine HS.cond1 ?_ ?_); rfl) | ((with_reducible refine HS.cond0 ?_ ?_); rfl) | ((with_reducible apply HS.condB) <;> first | rfl | (with_reducible intro h)) | (with_reducible refine HS.exit ?_) | (with_reducible refine HS.ret ?_) | (with_reducible refine HS.skip ?_) | (with_reducible first | refine thenQ_n ?_ | refine blockQ_n ?_ | refine thenQ_r ?_ | refine blockQ_r ?_ | refine thenQ_x ?_ | refine blockQ_hit ?_ | refine endS_r ?_ | refine endS_n ?_) | ((with_reducible refine blockQ_miss ?_ ?_); rfl) | (with_reducible refine Two.mk' (fun h => ?_) (fun h => ?_) <;> try (exfalso; omega)) | ((with_reducible refine Bsel.mk' (fun h => ?_) (fun h => ?_)) <;> (try simp only [h])) | ((fail_if_success (with_reducible first | refine isHS ?_ | refine isRet ?_ | refine isCall ?_ | refine isNext ?_ | refine isNextP ?_ | refine isThen ?_ | refine isBlock ?_ | refine isOut ?_ | refine isOutN ?_)); simp (disch := omega) only [↓LD, LU, loadA_rf, wpS_nil, wpS_a, wpS_n, wpS_g, ↓Bsel_true, ↓Bsel_false, frm_get, frm_getD, frm_set, look_cons, look_nil, List.set_cons_succ, List.set_cons_zero, List.getElem?_cons_succ, List.getElem?_cons_zero, ↓bind'_some, ↓Two_true, ↓Two_false, List.length_cons, List.length_nil, List.cons_append, List.nil_append, List.map_cons, List.map_nil, List.take_succ_cons, List.take_zero, List.drop_succ_cons, List.drop_zero, Option.map_some, Option.map_none, ↓reduceIte, Nat.reduceAdd, Nat.reduceMul, Nat.reduceSub, Nat.reduceLeDiff, Nat.reduceLT, Nat.reduceEqDiff, Nat.add_zero, Nat.zero_add, Nat.mul_one, Int.toNat_natCast, Nat.mul_zero, Nat.zero_mul, true_and, and_true, reduceCtorEq, Int.reduceNeg, Int.reduceLT, Int.reduceLE, Int.reduceEq, Int.reduceToNat, wrap_in, List.getElem?_drop, List.getElem?_map, List.length_map, if_some, most_eq, set_map_b, app_map_i, getElem?_some_of, Int.natCast_nonneg, Bool.false_eq_true, decide_true, decide_false, Bool.not_true, Bool.not_false, and_self, eq_self, false_implies, or_self, Bool.and_self, false_or, or_false, Bool.false_and, Bool.true_beq, Bool.false_beq]) | ((with_reducible refine And.intro ?_ ?_); omega) | ((fail_if_success (with_reducible first | refine isHS ?_ | refine isRet ?_ | refine isCall ?_ | refine isNext ?_ | refine isNextP ?_ | refine isThen ?_ | refine isBlock ?_ | refine isOut ?_ | refine isOutN ?_)); (simp only [D.int, D.bool])))
      exact end0 ⟨rfl, rfl⟩
end Go.Proofs.Ytjbkckhpoicaeaa.Mir

/- slices.Sorted(maps.Keys(m)) told by its contract, for keys of any kind: what it leaves on the machine's rows. -/
namespace Go.Proofs.Ytjbkckhpoicaeaa.Mir
open Go Go.RowKit Go.Shelf Go.Maps Go.Sort

section
variable {P : Program} {w w' : World} {φ : Nat → Nat × Nat} {X : Nat → Prop} {H : List Row}

theorem keep_below (h : Below w.heap.size w w') : Keep (fun _ => False) w w' :=
  ⟨h.size, fun b hb _ => h.block b hb, fun b cs _ fr hc => ⟨cs, fr, (h.block b (block_lt hc)).trans hc, rfl⟩, h.os, h.tape, h.output⟩

theorem leaves_new (h : HR P w φ X H) (hk : Keep (fun _ => False) w w') (b : Nat) (hb : w.heap.size ≤ b) (row : Row) (d : D) (v : Value)
    (hrow : ∀ (A : Nat → Prop), (∀ c, c < w.heap.size → A c → Av X φ H c) → RowOk P w' (ext1 φ H.length (b, 0)) A (H.length + 1) H.length row ∧ R P w' (ext1 φ H.length (b, 0)) A (H.length + 1) d v) :
    Leaves P w φ X H ⟨d, [], [row]⟩ v w' := by
  obtain ⟨r1, r2, r3⟩ := h.more hk b 0 row hb (fun hav => (hrow _ hav).1)
  refine ⟨ext1 φ H.length (b, 0), fun r hr => ext1_old hr, by simpa [Eff.heap, applyUpd] using r1, ?_, hk.mono (fun _ _ h => h.elim), by simpa [Eff.heap, applyUpd] using r2⟩
  have := (hrow _ r3).2
  simpa [Eff.heap, applyUpd] using this

theorem leaves_same (h : HR P w φ X H) (hk : Keep (fun _ => False) w w') {d : D} {v : Value} (hd : ∀ A, R P w' φ A H.length d v) : Leaves P w φ X H ⟨d, [], []⟩ v w' := by
  obtain ⟨r1, r2, r3⟩ := h.step (H' := H) (φ' := φ) (fun _ => False) hk (fun _ h => h.elim) (Nat.le_refl _) (fun _ _ => rfl) (fun r x hx hl => .inr (live_of hx hl)) (fun r x hx => .inl ⟨hx, fun _ h => h⟩) h.apart
  exact ⟨φ, fun _ _ => rfl, by simpa [Eff.heap, applyUpd] using r1, by simpa [Eff.heap, applyUpd] using hd _, hk.mono (fun _ _ h => h.elim), by simpa [Eff.heap, applyUpd] using r2⟩

/-- What is handed back: nil, or a new row. -/
def resOf (T : TypeId) (n : Nat) (xs : List Value) : Eff :=
  if xs.isEmpty then ⟨.f (.v (.slice none 0 0)), [], []⟩ else ⟨.sl n 0 xs.length, [], [.data T (xs.map F.v)]⟩

theorem sorted_leaves (hH : HR P w φ X H) (hb : Below w.heap.size w w') {T : TypeId} {i : TypeInfo} (hT : P.info? T = some i) (hi : i.size = 1) {xs : List Value} (h1 : ∀ x ∈ xs, x.oneCell' = true) {v : Value}
    (hrow : w'.ownsRow w.heap.size T 1 v xs.length xs) (hnil : v = .slice none 0 0 ↔ xs = []) : Leaves P w φ X H (resOf T H.length xs) v w' := by
  unfold resOf
  by_cases hx : xs = []
  · subst hx
    obtain rfl := hnil.2 rfl
    exact leaves_same hH (keep_below hb) fun A => .f (.v rfl)
  · rw [if_neg (by simpa using hx)]
    obtain ⟨_, hr⟩ := hrow
    rcases hr with ⟨hv, _⟩ | ⟨g, cap, cur, rfl, hbase, hg, hn, _, hsz, htake⟩
    · exact absurd (hnil.1 hv) hx
    · refine leaves_new hH (keep_below hb) g hbase _ _ _ fun A hA => ⟨?_, ?_⟩
      · refine ⟨[], xs, cur.toList.drop xs.length, ?_, by rw [ext1_new]; rfl, by simp, fun j x u hj hu => ?_⟩
        · rw [ext1_new]
          refine hg.trans ?_
          rw [List.nil_append]
          have : cur = (xs ++ cur.toList.drop xs.length).toArray := by
            rw [← htake, Nat.mul_one]
            apply Array.toList_inj.1
            have h2 : (cur.toList.take xs.length).length = xs.length := by simp; omega
            simp only [h2, List.take_append_drop]
          rw [← this]
        · rw [List.getElem?_map, hu] at hj
          cases hj
          exact .v (h1 _ (List.mem_of_getElem? hu))
      · have := R.sl (P := P) (w := w') (φ := ext1 φ H.length (g, 0)) (A := A) (N := H.length + 1) (r := H.length) (off := 0) (n := xs.length) (cap := cap) (cs := cur) (T := T) (fr := (0, 0)) (i := i) (by omega) hn (by rw [ext1_new]; exact hg) hT (by rw [ext1_new, hi]; simp; omega)
        rw [ext1_new] at this
        exact this
end

/-- A list in order, laid by insertion: for the kernel. -/
def insK {α : Type} (le : α → α → Bool) (x : α) : List α → List α
  | [] => [x]
  | y :: ys => match le x y with
    | true => x :: y :: ys
    | false => y :: insK le x ys
def isort {α : Type} (le : α → α → Bool) : List α → List α
  | [] => []
  | x :: xs => insK le x (isort le xs)

theorem insK_perm {α : Type} (le : α → α → Bool) (x : α) : ∀ ys, (insK le x ys).Perm (x :: ys)
  | [] => .refl _
  | y :: ys => by
    unfold insK
    split
    · exact .refl _
    · exact ((insK_perm le x ys).cons y).trans (.swap x y ys)
theorem isort_perm {α : Type} (le : α → α → Bool) : ∀ xs, (isort le xs).Perm xs
  | [] => .refl _
  | x :: xs => (insK_perm le x _).trans ((isort_perm le xs).cons x)
theorem insK_pairwise {α : Type} {le : α → α → Bool} (tr : ∀ a b c, le a b = true → le b c = true → le a c = true) (tot : ∀ a b, (le a b || le b a) = true) (x : α) : ∀ ys, ys.Pairwise (fun a b => le a b = true) → (insK le x ys).Pairwise (fun a b => le a b = true)
  | [], _ => by simp [insK]
  | y :: ys, h => by
    rw [List.pairwise_cons] at h
    unfold insK
    split
    · rename_i hxy
      refine List.pairwise_cons.2 ⟨fun z hz => ?_, List.pairwise_cons.2 h⟩
      rcases List.mem_cons.1 hz with rfl | hz
      · exact hxy
      · exact tr _ _ _ hxy (h.1 z hz)
    · rename_i hxy
      have hyx : le y x = true := by
        have := tot x y
        rw [hxy] at this; simpa using this
      refine List.pairwise_cons.2 ⟨fun z hz => ?_, insK_pairwise tr tot x ys h.2⟩
      rcases List.mem_cons.1 ((insK_perm le x ys).subset hz) with rfl | hz
      · exact hyx
      · exact h.1 z hz
theorem isort_pairwise {α : Type} {le : α → α → Bool} (tr : ∀ a b c, le a b = true → le b c = true → le a c = true) (tot : ∀ a b, (le a b || le b a) = true) : ∀ xs, (isort le xs).Pairwise (fun a b => le a b = true)
  | [] => .nil
  | x :: xs => insK_pairwise tr tot x _ (isort_pairwise tr tot xs)
theorem isort_eq {α : Type} {le : α → α → Bool} (tr : ∀ a b c, le a b = true → le b c = true → le a c = true) (tot : ∀ a b, (le a b || le b a) = true) (anti : ∀ a b, le a b = true → le b a = true → a = b) {xs ys : List α} (h : ys.Perm xs) : ys.mergeSort le = isort le xs :=
  List.Perm.eq_of_pairwise (le := fun a b => le a b = true) (fun a b _ _ h1 h2 => anti a b h1 h2) (List.pairwise_mergeSort tr tot ys) (isort_pairwise tr tot xs) (((List.mergeSort_perm ys le).trans h).trans (isort_perm le xs).symm)

/-- The keys, where all are of the kind. -/
def keysV {α : Type} (ofK : Value → Option α) : List Value → Option (List α)
  | [] => some []
  | v :: vs => match ofK v with
    | some x => match keysV ofK vs with
      | some xs => some (x :: xs)
      | none => none
    | none => none

theorem keys_read {α : Type} {P : Program} {k : TypeId} (ofK : Value → Option α) (lit : α → Lit) (back : Lit → α) (hb : ∀ x, back (lit x) = x) (hk : ∀ v x, ofK v = some x → keyOf P k v = some (lit x)) :
    ∀ (l : List MapEntry) (ks : List α), keysV ofK (l.map (·.key)) = some ks → (∀ x ∈ l, ∃ y, WideElems.rd (H := Unit) P k (fun _ => some (.nil, [])) x = some y) ∧ (l.map (WideElems.rg (H := Unit) P k (fun _ => some (.nil, [])))).map (fun p => back p.1) = ks
  | [], ks, h => by cases h; exact ⟨fun x hx => (by cases hx), rfl⟩
  | e :: l, ks, h => by
    simp only [List.map_cons, keysV] at h
    split at h
    · rename_i x hx
      split at h
      · rename_i xs hxs
        cases h
        obtain ⟨h1, h2⟩ := keys_read ofK lit back hb hk l xs hxs
        have hrd : WideElems.rd (H := Unit) P k (fun _ => some (.nil, [])) e = some (lit x, .nil) := by simp [WideElems.rd, hk _ _ hx]
        refine ⟨fun y hy => ?_, ?_⟩
        · rcases List.mem_cons.1 hy with rfl | hy
          · exact ⟨_, hrd⟩
          · exact h1 y hy
        · simp only [List.map_cons, h2, WideElems.rg, hrd, Option.getD_some, hb]
      · cases h
    · cases h

theorem owns_keys {α : Type} {P : Program} {k : TypeId} (ofK : Value → Option α) (lit : α → Lit) (back : Lit → α) (hb : ∀ x, back (lit x) = x) (hk : ∀ v x, ofK v = some x → keyOf P k v = some (lit x))
    {w : World} {q : Nat} {en : Array MapEntry} {clock : Nat} (hq : w.heap[q]? = some (.map en clock)) (hst : MapKept.Stamped en clock) {ks : List α} (hks : keysV ofK (en.toList.map (·.key)) = some ks) (hsz : en.size ≤ maxLen) :
    ∃ es : List (Lit × DataW Unit), w.ownsMap P k (fun _ => some (.nil, [])) q en.size (.map es) ∧ (es.map fun p => back p.1).Perm ks ∧ es.length = en.size := by
  obtain ⟨h1, h2⟩ := keys_read (P := P) (k := k) ofK lit back hb hk _ _ hks
  refine ⟨_, ⟨en, clock, hq, ⟨hsz, hst, h1⟩, Nat.le_refl _, rfl⟩, ?_, by rw [length_sorted]; simp⟩
  have := (WideShapes.sorted_perm (en.toList.map (WideElems.rg (H := Unit) P k (fun _ => some (.nil, []))))).map (fun p => back p.1)
  rw [h2] at this
  exact this

theorem one_arg1 {P : Program} {w : World} {φ : Nat → Nat × Nat} {A : Nat → Prop} {N : Nat} {d : D} {vs : Array Value} (h : Rs P w φ A N [d] vs.toList) : ∃ u, vs = #[u] ∧ R P w φ A N d u := by
  obtain ⟨l⟩ := vs
  obtain ⟨h1, h2⟩ := h
  match l, h1 with
  | [u], _ => exact ⟨u, rfl, h2 0 d u rfl rfl⟩

def sortedG (k : FuncId) (T : TypeId) (srt : List Value → Option (List Value)) : List D → List Row → Option Eff
  | [.fn g [.pt r 0]], H => match Nat.beq g k with
    | true => match H[r]? with
      | some (.box _ [.f (.v (.map none))]) => some ⟨.f (.v (.slice none 0 0)), [], []⟩
      | some (.box _ [.mp q]) => match H[q]? with
        | some (.map es) => match srt (es.map (·.1)) with
          | some xs => some (resOf T H.length xs)
          | none => none
        | _ => none
      | _ => none
    | false => none
  | _, _ => none

theorem sortedG_ok {P : Program} {f k : FuncId} {T : TypeId} (hT0 : (P.info? T).map (·.size) = some 1) {srt : List Value → Option (List Value)} (hone : ∀ l xs, srt l = some xs → ∀ x ∈ xs, x.oneCell' = true)
    (hnil : ∀ (w : World) (b : Nat), b < w.heap.size → w.cell? ⟨b, 0, none⟩ = some (.map none) → Calls P f #[.func (.func k) #[] #[.pointer (some ⟨b, 0, none⟩)]] w fun e w' => e = .returned (.slice none 0 0) ∧ Below w.heap.size w w')
    (hsome : ∀ (w : World) (b q : Nat) (en : Array MapEntry) (clock : Nat) (xs : List Value), b < w.heap.size → w.cell? ⟨b, 0, none⟩ = some (.map (some q)) → w.heap[q]? = some (.map en clock) → MapKept.Stamped en clock → srt (en.toList.map (·.key)) = some xs →
      Calls P f #[.func (.func k) #[] #[.pointer (some ⟨b, 0, none⟩)]] w fun e w' => ∃ v, e = .returned v ∧ w'.ownsRow w.heap.size T 1 v xs.length xs ∧ (v = .slice none 0 0 ↔ xs = []) ∧ Below w.heap.size w w') : Sound P f (sortedG k T srt) := by
  obtain ⟨i, hT, hi⟩ := Option.map_eq_some_iff.1 hT0
  intro args H e hg w φ X vs hH hargs
  unfold sortedG at hg
  split at hg
  · rename_i g r
    split at hg
    · rename_i hgk
      obtain rfl : g = k := Nat.eq_of_beq_eq_true hgk
      obtain ⟨u, rfl, hu⟩ := one_arg1 hargs
      cases hu with | fn hs hr =>
      rename_i us
      obtain ⟨u, rfl⟩ : ∃ u, us = #[u] := by
        obtain ⟨l⟩ := us
        match l, hs with
        | [u], _ => exact ⟨u, rfl⟩
      have hu := hr 0 _ u rfl rfl
      cases hu with | pt hrl =>
      split at hg
      · rename_i T0 hrow
        cases hg
        obtain ⟨h0, cs, h1, h2, h3⟩ := hH.rows r _ hrow
        obtain ⟨u, rfl⟩ : ∃ u, cs = #[u] := by
          obtain ⟨l⟩ := cs
          match l, h2.1 with
          | [u], _ => exact ⟨u, rfl⟩
        have hu := h2.2 0 _ u rfl rfl
        cases hu with | f hu => cases hu with | v _ =>
        rw [h0]
        refine (hnil w (φ r).1 (block_lt h1) (by simp [World.cell?, h1])).mono ?_
        rintro e w' ⟨rfl, hb⟩
        exact ⟨_, rfl, leaves_same hH (keep_below hb) fun A => .f (.v rfl)⟩
      · rename_i T0 q hrow
        split at hg
        · rename_i es hmap
          split at hg
          · rename_i xs hxs
            cases hg
            obtain ⟨h0, cs, h1, h2, h3⟩ := hH.rows r _ hrow
            obtain ⟨u, rfl⟩ : ∃ u, cs = #[u] := by
              obtain ⟨l⟩ := cs
              match l, h2.1 with
              | [u], _ => exact ⟨u, rfl⟩
            have hu := h2.2 0 _ u rfl rfl
            cases hu with | mp hql =>
            obtain ⟨en, clock, m1, m0, m2, m3⟩ := hH.rows q _ hmap
            have hkeys : en.toList.map (·.key) = es.map (·.1) := by
              apply List.ext_getElem?
              intro j
              rw [List.getElem?_map, List.getElem?_map]
              by_cases hj : j < es.length
              · have e1 : es[j]? = some es[j] := List.getElem?_eq_getElem hj
                have hj' : j < en.size := by omega
                have e2 : en[j]? = some en[j] := Array.getElem?_eq_getElem hj'
                have e3 : en.toList[j]? = some en[j] := by rw [Array.getElem?_toList]; exact e2
                rw [e1, e3]
                exact congrArg some ((m3 j es[j].1 es[j].2 en[j] e1 e2).1)
              · rw [List.getElem?_eq_none (by rw [Array.length_toList]; omega), List.getElem?_eq_none (by omega)]; rfl
            rw [h0]
            refine (hsome w (φ r).1 (φ q).1 en clock xs (block_lt h1) (by simp [World.cell?, h1]) m1 m0 (by rw [hkeys]; exact hxs)).mono ?_
            rintro e w' ⟨v, rfl, hrow, hn, hb⟩
            exact ⟨v, rfl, sorted_leaves hH hb hT hi (hone _ _ hxs) hrow hn⟩
          · cases hg
        · cases hg
      · cases hg
    · cases hg
  · cases hg
end Go.Proofs.Ytjbkckhpoicaeaa.Mir

/- slices.Sorted(maps.Keys(m)) told by its contract: keys that are ints. -/
namespace Go.Proofs
open Go.RowKit Go.Maps Go.Sort Go.Shelf
def Ytjbkckhpoicaeaa.keysL_ren : Go.Shelf.Ren := ⟨fun | 7 => 53 | 10 => 68 | n => n, fun | 23 => 73 | 26 => 3 | 3 => 41 | 28 => 84 | 0 => 0 | 27 => 83 | 33 => 97 | 4 => 4 | n => n, fun | n => n⟩
theorem Ytjbkckhpoicaeaa.keysL : Go.Proofs.SlLaysZI.n7 Try.prog Ytjbkckhpoicaeaa.keysL_ren := {
  mixed := by kernel_rfl
  f7 := ⟨Try.f53.name, by decide, Try.func53.trans (congrArg some (by kernel_rfl))⟩
  f10 := ⟨Try.f68.name, by decide, Try.func68.trans (congrArg some (by kernel_rfl))⟩
  t0 := Try.underlying0
  a0 := Try.isAgg0
  z0 := Try.sizeOf0
  v0 := Try.zeroValue0
  t4 := Try.underlying4
  a4 := Try.isAgg4
  z4 := Try.sizeOf4
  v4 := Try.zeroValue4
  t23 := Try.underlying73
  a23 := Try.isAgg73
  z23 := Try.sizeOf73
  v23 := Try.zeroValue73
  t26 := Try.underlying3
  a26 := Try.isAgg3
  z26 := Try.sizeOf3
  v26 := Try.zeroValue3
  t27 := Try.underlying83
  a27 := Try.isAgg83
  z27 := Try.sizeOf83
  v27 := Try.zeroValue83
  t28 := Try.underlying84
  a28 := Try.isAgg84
  z28 := Try.sizeOf84
  v28 := Try.zeroValue84
  t33 := Try.underlying97
  a33 := Try.isAgg97
  z33 := Try.sizeOf97
  v33 := Try.zeroValue97 }

def Ytjbkckhpoicaeaa.sortedL_ren : Go.Shelf.Ren := ⟨fun | 6 => 52 | 8 => 67 | 9 => 47 | 11 => 82 | 13 => 65 | 12 => 64 | 23 => 80 | 24 => 81 | 14 => 71 | 15 => 72 | 16 => 73 | 17 => 74 | 18 => 75 | 19 => 76 | 20 => 77 | 21 => 78 | 22 => 79 | 25 => 84 | 26 => 85 | 27 => 86 | 28 => 87 | 29 => 88 | 30 => 89 | 31 => 90 | n => n, fun | 26 => 3 | 28 => 84 | 24 => 23 | 0 => 0 | 3 => 3 | 37 => 95 | 48 => 109 | 50 => 111 | 4 => 4 | 40 => 101 | 39 => 100 | 45 => 106 | 5 => 5 | 9 => 9 | 51 => 114 | 55 => 118 | 57 => 120 | 58 => 121 | 33 => 97 | n => n, fun | n => n⟩
theorem Ytjbkckhpoicaeaa.sortedL : Go.Proofs.SlLaysZI.n6 Try.prog Ytjbkckhpoicaeaa.sortedL_ren := {
  mixed := by kernel_rfl
  f6 := ⟨Try.f52.name, by decide, Try.func52.trans (congrArg some (by kernel_rfl))⟩
  f8 := ⟨Try.f67.name, by decide, Try.func67.trans (congrArg some (by kernel_rfl))⟩
  f11 := ⟨Try.f82.name, by decide, Try.func82.trans (congrArg some (by kernel_rfl))⟩
  t0 := Try.underlying0
  a0 := Try.isAgg0
  z0 := Try.sizeOf0
  v0 := Try.zeroValue0
  t24 := Try.underlying23
  a24 := Try.isAgg23
  z24 := Try.sizeOf23
  v24 := Try.zeroValue23
  t26 := Try.underlying3
  a26 := Try.isAgg3
  z26 := Try.sizeOf3
  v26 := Try.zeroValue3
  t28 := Try.underlying84
  a28 := Try.isAgg84
  z28 := Try.sizeOf84
  v28 := Try.zeroValue84
  i26 := by kernel_rfl }

def Ytjbkckhpoicaeaa.sortL_ren : Go.Shelf.Ren := ⟨fun | 5 => 47 | 8 => 65 | 7 => 64 | 19 => 80 | 20 => 81 | 10 => 71 | 11 => 72 | 12 => 73 | 13 => 74 | 14 => 75 | 15 => 76 | 16 => 77 | 17 => 78 | 18 => 79 | 30 => 84 | 31 => 85 | 32 => 86 | 33 => 87 | 34 => 88 | 35 => 89 | 40 => 90 | n => n, fun | 23 => 23 | 25 => 3 | 3 => 3 | 32 => 95 | 22 => 23 | 0 => 0 | 44 => 109 | 46 => 111 | 4 => 4 | 36 => 101 | 35 => 100 | 41 => 106 | 5 => 5 | 9 => 9 | 53 => 114 | 57 => 118 | 63 => 120 | 64 => 121 | n => n, fun | n => n⟩
theorem Ytjbkckhpoicaeaa.sortL : Go.Proofs.SlLaysM.n5 Try.prog Ytjbkckhpoicaeaa.sortL_ren := {
  mixed := by kernel_rfl
  f5 := ⟨Try.f47.name, by decide, Try.func47.trans (congrArg some (by kernel_rfl))⟩
  f7 := ⟨Try.f64.name, by decide, Try.func64.trans (congrArg some (by kernel_rfl))⟩
  f8 := Try.func65.trans (congrArg some (by kernel_rfl))
  f10 := ⟨Try.f71.name, by decide, Try.func71.trans (congrArg some (by kernel_rfl))⟩
  f11 := ⟨Try.f72.name, by decide, Try.func72.trans (congrArg some (by kernel_rfl))⟩
  f12 := ⟨Try.f73.name, by decide, Try.func73.trans (congrArg some (by kernel_rfl))⟩
  f13 := ⟨Try.f74.name, by decide, Try.func74.trans (congrArg some (by kernel_rfl))⟩
  f14 := ⟨Try.f75.name, by decide, Try.func75.trans (congrArg some (by kernel_rfl))⟩
  f15 := ⟨Try.f76.name, by decide, Try.func76.trans (congrArg some (by kernel_rfl))⟩
  f16 := ⟨Try.f77.name, by decide, Try.func77.trans (congrArg some (by kernel_rfl))⟩
  f17 := ⟨Try.f78.name, by decide, Try.func78.trans (congrArg some (by kernel_rfl))⟩
  f18 := ⟨Try.f79.name, by decide, Try.func79.trans (congrArg some (by kernel_rfl))⟩
  f19 := Try.func80.trans (congrArg some (by kernel_rfl))
  f20 := Try.func81.trans (congrArg some (by kernel_rfl))
  f30 := ⟨Try.f84.name, by decide, Try.func84.trans (congrArg some (by kernel_rfl))⟩
  f31 := Try.func85.trans (congrArg some (by kernel_rfl))
  f32 := Try.func86.trans (congrArg some (by kernel_rfl))
  f33 := ⟨Try.f87.name, by decide, Try.func87.trans (congrArg some (by kernel_rfl))⟩
  f34 := ⟨Try.f88.name, by decide, Try.func88.trans (congrArg some (by kernel_rfl))⟩
  f35 := ⟨Try.f89.name, by decide, Try.func89.trans (congrArg some (by kernel_rfl))⟩
  f40 := ⟨Try.f90.name, by decide, Try.func90.trans (congrArg some (by kernel_rfl))⟩
  t0 := Try.underlying0
  a0 := Try.isAgg0
  z0 := Try.sizeOf0
  v0 := Try.zeroValue0
  t3 := Try.underlying3
  a3 := Try.isAgg3
  z3 := Try.sizeOf3
  v3 := Try.zeroValue3
  t4 := Try.underlying4
  a4 := Try.isAgg4
  z4 := Try.sizeOf4
  v4 := Try.zeroValue4
  t5 := Try.underlying5
  a5 := Try.isAgg5
  z5 := Try.sizeOf5
  v5 := Try.zeroValue5
  t9 := Try.underlying9
  a9 := Try.isAgg9
  z9 := Try.sizeOf9
  v9 := Try.zeroValue9
  t22 := Try.underlying23
  a22 := Try.isAgg23
  z22 := Try.sizeOf23
  v22 := Try.zeroValue23
  t23 := Try.underlying23
  a23 := Try.isAgg23
  z23 := Try.sizeOf23
  v23 := Try.zeroValue23
  t25 := Try.underlying3
  a25 := Try.isAgg3
  z25 := Try.sizeOf3
  v25 := Try.zeroValue3
  t32 := Try.underlying95
  a32 := Try.isAgg95
  z32 := Try.sizeOf95
  v32 := Try.zeroValue95
  t35 := Try.underlying100
  a35 := Try.isAgg100
  z35 := Try.sizeOf100
  v35 := Try.zeroValue100
  t36 := Try.underlying101
  a36 := Try.isAgg101
  z36 := Try.sizeOf101
  v36 := Try.zeroValue101
  t41 := Try.underlying106
  a41 := Try.isAgg106
  z41 := Try.sizeOf106
  v41 := Try.zeroValue106
  t44 := Try.underlying109
  a44 := Try.isAgg109
  z44 := Try.sizeOf109
  v44 := Try.zeroValue109
  t46 := Try.underlying111
  a46 := Try.isAgg111
  z46 := Try.sizeOf111
  v46 := Try.zeroValue111
  t53 := Try.underlying114
  a53 := Try.isAgg114
  z53 := Try.sizeOf114
  v53 := Try.zeroValue114
  t57 := Try.underlying118
  a57 := Try.isAgg118
  z57 := Try.sizeOf118
  v57 := Try.zeroValue118
  t63 := Try.underlying120
  a63 := Try.isAgg120
  z63 := Try.sizeOf120
  v63 := Try.zeroValue120
  t64 := Try.underlying121
  a64 := Try.isAgg121
  z64 := Try.sizeOf121
  v64 := Try.zeroValue121 }

end Go.Proofs
namespace Go.Proofs.Ytjbkckhpoicaeaa.Mir
open Go Go.RowKit Go.Shelf Go.Maps Go.Sort

def ofI : Value → Option Int
  | .int .i64 n => match decide (-9223372036854775808 ≤ n) && decide (n ≤ 9223372036854775807) with
    | true => some n
    | false => none
  | _ => none
def sortI (vs : List Value) : Option (List Value) := match keysV ofI vs with
  | some ks => match Nat.ble ks.length 1000000 with
    | true => some ((isort (fun x y => decide (x ≤ y)) ks).map encZ)
    | false => none
  | none => none
theorem sortI_eq {vs xs : List Value} (h : sortI vs = some xs) : ∃ ks, keysV ofI vs = some ks ∧ ks.length ≤ 1000000 ∧ xs = (isort (fun x y => decide (x ≤ y)) ks).map encZ := by
  unfold sortI at h
  split at h
  · rename_i ks hks
    split at h
    · rename_i hl
      cases h
      exact ⟨ks, hks, Nat.le_of_ble_eq_true hl, rfl⟩
    · cases h
  · cases h

theorem sortsI (m : Nat) : AnyZI.SortsIn Try.prog Ytjbkckhpoicaeaa.sortedL_ren Fence.wide m :=
  ⟨fun blk off cap ss W hH hblk hsz => callsIn_wide.2 (AnyM.slices_Sort_int Ytjbkckhpoicaeaa.sortL blk off cap ss W hH hblk hsz),
   fun p cap W => callsIn_wide.2 (AnyM.slices_Sort_int_none Ytjbkckhpoicaeaa.sortL p cap W)⟩

theorem sortedI_ok : Sound Try.prog 52 (sortedG 68 3 sortI) := by
  refine sortedG_ok (by kernel_rfl) ?_ ?_ ?_
  · intro l xs h x hx
    obtain ⟨ks, _, _, rfl⟩ := sortI_eq h
    obtain ⟨y, _, rfl⟩ := List.mem_map.1 hx
    rfl
  · intro w b hb hm
    refine (callsIn_wide (n := 5)).1 ?_
    have hseq : SeqGives Fence.wide 2 Try.prog 68 #[.pointer (some ⟨b, 0, none⟩)] encZ (fun ss : List Int => ss = []) 0 w :=
      AnyZI.keys_gives_nil (ρ := Ytjbkckhpoicaeaa.keysL_ren) { Ytjbkckhpoicaeaa.keysL with } Fence.wide _ trivial rfl b _ hb hm
    have cS := AnyZI.sorted_in Ytjbkckhpoicaeaa.sortedL Fence.wide 5 trivial trivial trivial trivial rfl (by omega) (sortsI _) (enters_of Try.func47 (by kernel_rfl) rfl) 68 #[.pointer (some ⟨b, 0, none⟩)] trivial (enters_of Try.func68 (by kernel_rfl) rfl) _ 0 (Nat.zero_le _) (by omega) _ hseq
    change CallsIn _ _ Try.prog 52 _ _ _ at cS
    refine cS.mono ?_
    rintro e w' ⟨v, ss, rfl, rfl, hrow, hnil, hb⟩
    obtain rfl : v = .slice none 0 0 := hnil.2 rfl
    exact ⟨rfl, hb⟩
  · intro w b q en clock xs hb hm hq hst hxs
    obtain ⟨ks, hks, hlen, rfl⟩ := sortI_eq hxs
    have hen : en.size = ks.length := by
      have : ∀ (l : List Value) (ks : List Int), keysV ofI l = some ks → l.length = ks.length := by
        intro l
        induction l with
        | nil => intro ks h; cases h; rfl
        | cons v l ih =>
          intro ks h
          unfold keysV at h
          split at h
          · split at h
            · rename_i hxs
              cases h
              simp [ih _ hxs]
            · cases h
          · cases h
      have := this _ _ hks
      simpa using this
    obtain ⟨es, hown, hperm, hel⟩ := owns_keys (P := Try.prog) (k := 3) ofI (Lit.int .i64) Go.intOf (fun _ => rfl) (fun v x h => by
      unfold ofI at h
      split at h
      · rename_i n
        split at h
        · rename_i hn
          cases h
          simp at hn
          have hk : Try.prog.underlying 3 = some (.int .i64) := by kernel_rfl
          simp [keyOf, hk, mapKey, Lit.wf]
          exact hn
        · cases h
      · cases h) hq hst hks (by simp [maxLen]; omega)
    refine (callsIn_wide (n := 5)).1 ?_
    have hseq : SeqGives Fence.wide 2 Try.prog 68 #[.pointer (some ⟨b, 0, none⟩)] encZ (fun ss => ss.Perm (intKeys (.map es))) (Maps.size (.map es)) w :=
      AnyZI.keys_gives (ρ := Ytjbkckhpoicaeaa.keysL_ren) { Ytjbkckhpoicaeaa.keysL with } Fence.wide _ trivial rfl (by omega) b q en.size (.map es) _ hb hm hown
    have cS := AnyZI.sorted_in Ytjbkckhpoicaeaa.sortedL Fence.wide 5 trivial trivial trivial trivial rfl (by omega) (sortsI _) (enters_of Try.func47 (by kernel_rfl) rfl) 68 #[.pointer (some ⟨b, 0, none⟩)] trivial (enters_of Try.func68 (by kernel_rfl) rfl) _ _ (by rw [Maps.size_eq, hel, hen]; simp [maxLen]; omega) (by rw [Maps.size_eq, hel, hen]; omega) _ hseq
    change CallsIn _ _ Try.prog 52 _ _ _ at cS
    refine cS.mono ?_
    rintro e w' ⟨v, ss, rfl, hS, hrow, hnil, hb⟩
    have hss : ss.Perm ks := hS.trans hperm
    have hsort := isort_eq (le := fun x y : Int => decide (x ≤ y)) (by intro a b c; simp; omega) (by intro a b; simp; omega) (by intro a b; simp; omega) hss
    refine ⟨v, rfl, ?_, ?_, hb⟩
    · rw [hsort] at hrow
      have : ss.length = ((isort (fun x y : Int => decide (x ≤ y)) ks).map encZ).length := by
        rw [← hsort]; simp
      rw [← this]; exact hrow
    · rw [hnil, List.map_eq_nil_iff, ← hsort]
      constructor
      · rintro rfl; simp
      · intro h
        have := congrArg List.length h
        simpa using this
end Go.Proofs.Ytjbkckhpoicaeaa.Mir

/- slices.Sort of ints told by its contract: a live row is put in order. -/
namespace Go.Proofs.Ytjbkckhpoicaeaa.Mir
open Go Go.RowKit Go.Shelf Go.Maps Go.Sort
set_option linter.unusedVariables false
set_option linter.unusedSimpArgs false

def sortL (l : List Int) : List Int := isort (fun x y => decide (x ≤ y)) l
theorem sortL_perm (l : List Int) : (sortL l).Perm l := isort_perm _ l
theorem sortL_len (l : List Int) : (sortL l).length = l.length := (sortL_perm l).length_eq
theorem sortL_rise (l : List Int) : (sortL l).Pairwise (· ≤ ·) := by
  have := isort_pairwise (le := fun x y : Int => decide (x ≤ y)) (fun a b c h1 h2 => by simp at *; omega) (fun a b => by simp; omega) l
  exact this.imp (fun h => by simpa using h)
theorem sortL_merge (l : List Int) : l.mergeSort (fun x y => decide (x ≤ y)) = sortL l :=
  isort_eq (fun a b c h1 h2 => by simp at *; omega) (fun a b => by simp; omega) (fun a b h1 h2 => by simp at *; omega) (List.Perm.refl l)
theorem putCells_row {enc : Int → Value} {pre us post : List Value} {d : List Int} (h : us.length = d.length) : putCells enc pre.length d.toArray (pre ++ us ++ post).toArray = (pre ++ d.map enc ++ post).toArray := by
  apply Array.toList_inj.1
  apply List.ext_getElem?
  intro i
  simp only [putCells, Array.toList_mapIdx, List.getElem?_mapIdx, List.append_assoc]
  by_cases h1 : i < pre.length
  · rw [List.getElem?_append_left h1, List.getElem?_append_left h1, List.getElem?_eq_getElem h1]
    simp; omega
  · rw [List.getElem?_append_right (l₁ := pre) (l₂ := us ++ post) (by omega), List.getElem?_append_right (l₁ := pre) (l₂ := d.map enc ++ post) (by omega)]
    by_cases h2 : i - pre.length < d.length
    · rw [List.getElem?_append_left (l₁ := us) (by omega), List.getElem?_append_left (l₁ := d.map enc) (by simpa using h2), List.getElem?_eq_getElem (l := us) (by omega), List.getElem?_map, List.getElem?_eq_getElem h2]
      simp only [Option.map_some]
      rw [if_pos ⟨by omega, by simp; omega⟩]
      simp [h2]
    · rw [List.getElem?_append_right (l₁ := us) (by omega), List.getElem?_append_right (l₁ := d.map enc) (by simp; omega), List.length_map, h]
      generalize post[i - pre.length - d.length]? = o
      cases o with
      | none => rfl
      | some v =>
        simp only [Option.map_some]
        rw [if_neg (by simp; omega)]
theorem heap_row {w : World} {g off m : Nat} {os : Array Obj} {cur : Array Value} {e : TypeId} {fr : Nat × Nat} (d : Array Int) (hb : w.heap[g]? = some (.cells cur e fr)) :
    (grow (putRow (Value.int .i64) (Sort.ahead w m) g off d) os).heap[g]? = some (.cells (putCells (Value.int .i64) off d cur) e fr) := by
  have hg : g < w.heap.size := (Array.getElem?_eq_some_iff.1 hb).1
  rw [heap_grow_old _ _ (by simpa using hg)]
  simp [putRow, mapBlock, Sort.ahead, Array.getElem?_modify, hb, onCells]
theorem heap_other {w : World} {g off m k : Nat} {os : Array Obj} (d : Array Int) (hk : k < w.heap.size) (hne : k ≠ g) :
    (grow (putRow (Value.int .i64) (Sort.ahead w m) g off d) os).heap[k]? = w.heap[k]? := by
  rw [heap_grow_old _ _ (by simpa using hk)]
  have : g ≠ k := fun e => hne e.symm
  simp [putRow, mapBlock, Sort.ahead, Array.getElem?_modify, this]
theorem sort_has : ∃ fn, Try.prog.funcs[47]? = some fn ∧ fn.body.isSome = true := by
  have h : ((Try.prog.funcs[47]?).bind fun fn => fn.body).isSome = true := by kernel_rfl
  cases hf : Try.prog.funcs[47]? with
  | none => rw [hf] at h; cases h
  | some fn => rw [hf] at h; exact ⟨fn, rfl, h⟩
theorem c_int_Sort0 : Con Try.prog 47 [.f (.v (.slice none 0 0))] [] fun r H' => r = .tp [] ∧ H' = [] := by
  refine ⟨sort_has, fun w φ X vs hH hargs => ?_⟩
  obtain ⟨v, rfl, hv⟩ := one_arg1 hargs
  cases hv with | f hv => cases hv with | v _ =>
  have c := AnyM.slices_Sort_int_none Ytjbkckhpoicaeaa.sortL none 0 w
  change Calls Try.prog 47 _ _ _ at c
  refine c.mono ?_
  rintro e w' ⟨rfl, rfl⟩
  exact ⟨_, _, _, rfl, ⟨rfl, rfl⟩, LeavesW.of (Leaves.quiet hH (.tp rfl (fun i d u hd => by simp at hd)))⟩
theorem c_int_Sort (l : List Int) (n : Nat) (hn : l.length = n + 1) (hl : l.length ≤ 1000000) :
    Con Try.prog 47 [.sl 0 0 (n + 1)] [.data 3 (l.map iF)] fun r H' => r = .tp [] ∧ H' = [.data 3 ((sortL l).map iF)] := by
  refine ⟨sort_has, fun w φ X vs hH hargs => ?_⟩
  obtain ⟨v, rfl, hv⟩ := one_arg1 hargs
  obtain ⟨pre, us, post, hblk, hpre, hul, hus⟩ := hH.rows 0 _ rfl
  have hus' : us = l.map (Value.int .i64) := by
    apply List.ext_getElem?
    intro j
    by_cases hj : j < l.length
    · have hju : j < us.length := by rw [hul]; simpa using hj
      have h1 : (l.map iF)[j]? = some (iF l[j]) := by rw [List.getElem?_map, List.getElem?_eq_getElem hj]; rfl
      have h2 := hus j _ us[j] h1 (List.getElem?_eq_getElem hju)
      rw [List.getElem?_eq_getElem hju, List.getElem?_map, List.getElem?_eq_getElem hj]
      generalize us[j] = u at h2 ⊢
      cases h2 with | v _ => rfl
    · rw [List.getElem?_eq_none (by rw [hul]; simpa using Nat.le_of_not_lt hj), List.getElem?_eq_none (by simpa using Nat.le_of_not_lt hj)]
  cases hv with | sl hr hcap hb hi hsz =>
  rename_i cap cs T fr i
  rw [hblk] at hb
  have hH1 : Holds (Value.int .i64) w (φ 0).1 ((φ 0).2 + 0) l.toArray := by
    intro j hj
    have hj' : j < l.length := by simpa using hj
    refine ⟨?_, by simp [World.frozen?, hblk]⟩
    simp only [World.cell?, hblk, Option.isSome_none, Bool.false_eq_true, if_false]
    rw [← Array.getElem?_toList, List.append_assoc, List.getElem?_append_right (by omega), List.getElem?_append_left (by rw [hus']; simp; omega), hus', Nat.add_zero, show (φ 0).2 + j - pre.length = j by omega]
    simp [hj']
  have c := AnyM.slices_Sort_int Ytjbkckhpoicaeaa.sortL (φ 0).1 ((φ 0).2 + 0) cap l w hH1 (block_lt hblk) (by omega)
  rw [sortL_merge, hn] at c
  change Calls Try.prog 47 _ _ _ at c
  refine c.mono ?_
  rintro e w' ⟨rfl, m, os, rfl⟩
  have hnew := heap_row (m := m) (os := os) (off := (φ 0).2 + 0) (sortL l).toArray hblk
  have hcells : putCells (Value.int .i64) ((φ 0).2 + 0) (sortL l).toArray (pre ++ us ++ post).toArray = (pre ++ (sortL l).map (Value.int .i64) ++ post).toArray := by
    rw [Nat.add_zero, ← hpre, putCells_row (by rw [hus', List.length_map, sortL_len])]
  rw [hcells] at hnew
  have hkeep : Keep (fun b => true = true ∧ b = (φ 0).1) w (grow (putRow (Value.int .i64) (Sort.ahead w m) (φ 0).1 ((φ 0).2 + 0) (sortL l).toArray) os) := by
    refine ⟨?_, fun b hb1 hb2 => heap_other _ hb1 fun e => hb2 ⟨rfl, e⟩, fun b cs1 T1 fr1 h1 => ?_, rfl, rfl, rfl⟩
    · simp [grow, putRow, mapBlock, Sort.ahead]
    · by_cases hbg : b = (φ 0).1
      · subst hbg
        exact ⟨_, _, heap_row _ h1, by simp [putCells]⟩
      · exact ⟨_, _, (heap_other _ (block_lt h1) hbg).trans h1, rfl⟩
  obtain ⟨t1, t2, t3⟩ := hH.turn (r := 0) (row' := .data 3 ((sortL l).map iF)) rfl hkeep (fun _ => rfl) (fun hav => ⟨pre, (sortL l).map (Value.int .i64), post, hnew, hpre, by simp, fun j x u hx hu => by
    rw [List.getElem?_map] at hx hu
    cases hj : (sortL l)[j]? with
    | none => rw [hj] at hx; cases hx
    | some z => rw [hj] at hx hu; cases hx; cases hu; exact .v rfl⟩)
  have hlv : Leaves Try.prog w φ X [.data 3 (l.map iF)] ⟨.tp [], [(0, .data 3 ((sortL l).map iF))], []⟩ (.tuple #[]) (grow (putRow (Value.int .i64) (Sort.ahead w m) (φ 0).1 ((φ 0).2 + 0) (sortL l).toArray) os) :=
    ⟨φ, fun _ _ => rfl, t1, .tp rfl (fun i d u hd => by simp at hd), hkeep.mono (fun b _ h => h.2 ▸ live_of (r := 0) rfl rfl), t2⟩
  exact ⟨_, _, _, rfl, ⟨rfl, rfl⟩, LeavesW.of hlv⟩
end Go.Proofs.Ytjbkckhpoicaeaa.Mir

/- The program's disk: Files, rising. -/
namespace Go.Proofs.Ytjbkckhpoicaeaa.Mir
open Go Go.RowKit Go.Shelf Go.Maps Go.Sort
set_option linter.unusedVariables false
set_option linter.unusedSimpArgs false
set_option maxHeartbeats 2000000

theorem c_maps_Keys (l : Fs) : Con Try.prog 53 [.mp 0] [.map (mF l)] fun r H' => r = .fn 68 [.pt 1 0] ∧ H' = [.map (mF l), .box 73 [.mp 0]] := by
  refine Con.walk good fn_maps_Keys (by simp) ?_
  unfold s_maps_Keys
  simp only [argsE, List.length_cons, List.length_nil, Nat.reduceAdd]
  repeat' (first | (with_reducible refine HS.seq ?_) | (with_reducible refine HS.opsK good (fun K hK => ?_)) | (with_reducible refine wpS_app (fun K hK => ?_)) | ((with_reducible refine hK _ ?_); clear hK K) | (with_reducible refine HS.drw good (fun K hK => ?_)) | ((with_reducible refine And.intro (Chk.mk' ?_) ?_); kernel_rfl) | (with_reducible refine HS.block ?_) | ((with_reducible refine HS.cond1 ?_ ?_); rfl) | ((with_reducible refine HS.cond0 ?_ ?_); rfl) | ((with_reducible apply HS.condB) <;> first | rfl | (with_reducible intro h)) | (with_reducible refine HS.exit ?_) | (with_reducible refine HS.ret ?_) | (with_reducible refine HS.skip ?_) | (with_reducible first | refine thenQ_n ?_ | refine blockQ_n ?_ | refine thenQ_r ?_ | refine blockQ_r ?_ | refine thenQ_x ?_ | refine blockQ_hit ?_ | refine endS_r ?_ | refine endS_n ?_) | ((with_reducible refine blockQ_miss ?_ ?_); rfl) | (with_reducible refine Two.mk' (fun h => ?_) (fun h => ?_) <;> try (exfalso; omega)) | ((with_reducible refine Bsel.mk' (fun h => ?_) (fun h => ?_)) <;> (try simp only [h])) | ((fail_if_success (with_reducible first | refine isHS ?_ | refine isRet ?_ | refine isCall ?_ | refine isNext ?_ | refine isNextP ?_ | refine isThen ?_ | refine isBlock ?_ | refine isOut ?_ | refine isOutN ?_)); simp (disch := omega) only [↓LD, LU, loadA_rf, wpS_nil, wpS_a, wpS_n, wpS_g, ↓Bsel_true, ↓Bsel_false, frm_get, frm_getD, frm_set, look_cons, look_nil, List.set_cons_succ, List.set_cons_zero, List.getElem?_cons_succ, List.getElem?_cons_zero, ↓bind'_some, ↓Two_true, ↓Two_false, List.length_cons, List.length_nil, List.cons_append, List.nil_append, List.map_cons, List.map_nil, List.take_succ_cons, List.take_zero, List.drop_succ_cons, List.drop_zero, Option.map_some, Option.map_none, ↓reduceIte, Nat.reduceAdd, Nat.reduceMul, Nat.reduceSub, Nat.reduceLeDiff, Nat.reduceLT, Nat.reduceEqDiff, Nat.add_zero, Nat.zero_add, Nat.mul_one, Int.toNat_natCast, Nat.mul_zero, Nat.zero_mul, true_and, and_true, reduceCtorEq, Int.reduceNeg, Int.reduceLT, Int.reduceLE, Int.reduceEq, Int.reduceToNat, wrap_in, List.getElem?_drop, List.getElem?_map, List.length_map, if_some, most_eq, set_map_b, app_map_i, getElem?_some_of, Int.natCast_nonneg, Bool.false_eq_true, decide_true, decide_false, Bool.not_true, Bool.not_false, and_self, eq_self, false_implies, or_self, Bool.and_self, false_or, or_false, Bool.false_and, Bool.true_beq, Bool.false_beq]) | ((with_reducible refine And.intro ?_ ?_); omega) | ((fail_if_success (with_reducible first | refine isHS ?_ | refine isRet ?_ | refine isCall ?_ | refine isNext ?_ | refine isNextP ?_ | refine isThen ?_ | refine isBlock ?_ | refine isOut ?_ | refine isOutN ?_)); (simp only [D.int, D.bool])))
  exact endG rfl rfl (ef := ⟨.fn 68 [.pt 1 0], [(0, .map (mF l))], [.box 73 [.mp 0]]⟩) (by kernel_rfl) ⟨rfl, rfl⟩
/-- Files' numbers, all in their kind's bounds. -/
def KeysIn (l : Fs) : Prop := l.length ≤ 1000000 ∧ ∀ p ∈ l, -9223372036854775808 ≤ p.1 ∧ p.1 ≤ 9223372036854775807
theorem keysV_mF : ∀ l : Fs, (∀ p ∈ l, -9223372036854775808 ≤ p.1 ∧ p.1 ≤ 9223372036854775807) → keysV ofI ((mF l).map (·.1)) = some (l.map (·.1))
  | [], _ => rfl
  | p :: l, h => by
    have ih := keysV_mF l fun q hq => h q (by simp [hq])
    have hp := h p (by simp)
    unfold mF at ih ⊢
    simp only [List.map_cons, keysV, ih]
    have : ofI (.int .i64 p.1) = some p.1 := by
      show (match decide (-9223372036854775808 ≤ p.1) && decide (p.1 ≤ 9223372036854775807) with
        | true => some p.1
        | false => none) = some p.1
      rw [decide_eq_true hp.1, decide_eq_true hp.2]
      rfl
    rw [this]
theorem sortI_mF {l : Fs} (h : KeysIn l) : sortI ((mF l).map (·.1)) = some ((sortL (l.map (·.1))).map encZ) := by
  unfold sortI
  rw [keysV_mF l h.2]
  have : Nat.ble (l.map (·.1)).length 1000000 = true := by
    rw [List.length_map]; exact Nat.ble_eq_true_of_le h.1
  simp only [this]
  rfl
theorem enc_map (l : List Int) : (l.map encZ).map F.v = l.map iF := by rw [List.map_map]; rfl
theorem c_Sorted (l : Fs) (h : KeysIn l) : Con Try.prog 52 [.fn 68 [.pt 1 0]] [.map (mF l), .box 73 [.mp 0]]
    fun r H' => (l = [] ∧ r = .f (.v (.slice none 0 0)) ∧ H' = [.map (mF l), .box 73 [.mp 0]]) ∨ (l ≠ [] ∧ r = .sl 2 0 l.length ∧ H' = [.map (mF l), .box 73 [.mp 0], .data 3 ((sortL (l.map (·.1))).map iF)]) := by
  have hg : sortedG 68 3 sortI [.fn 68 [.pt 1 0]] [.map (mF l), .box 73 [.mp 0]] = some (resOf 3 2 ((sortL (l.map (·.1))).map encZ)) := by
    show (match sortI ((mF l).map (·.1)) with
      | some xs => some (resOf 3 2 xs)
      | none => none) = _
    rw [sortI_mF h]
  refine (Con.sound sortedI_ok (has_of (by kernel_rfl)) hg).mono ?_
  rintro r H' ⟨rfl, rfl⟩
  have hlen : (sortL (l.map (·.1))).length = l.length := by rw [sortL_len, List.length_map]
  by_cases hl : l = []
  · subst hl
    exact .inl ⟨rfl, rfl, rfl⟩
  · have hne : ((sortL (l.map (·.1))).map encZ).isEmpty = false := by
      cases hs : sortL (l.map (·.1)) with
      | nil => rw [hs] at hlen; exact absurd (List.eq_nil_of_length_eq_zero hlen.symm) hl
      | cons x s => rfl
    refine .inr ⟨hl, ?_, ?_⟩
    · unfold resOf
      rw [hne]
      show D.sl 2 0 ((sortL (l.map (·.1))).map encZ).length = _
      rw [List.length_map, hlen]
    · unfold resOf
      rw [hne]
      show [Row.map (mF l), .box 73 [.mp 0]] ++ [Row.data 3 (((sortL (l.map (·.1))).map encZ).map F.v)] = _
      rw [enc_map]; rfl
/-- The rows behind Files. -/
def dkF (e1 e2 : Fs) (n : Nat) (ws : List Wk) (fuse : Int) (dead : Bool) (works : Int) : D × List Row := match n, e2 with
  | n, [] => (.f (.v (.slice none 0 0)), dkR e1 [] n ws fuse dead works)
  | 0, p :: e => (.sl 3 0 (e.length + 1), dkR e1 (p :: e) 0 ws fuse dead works ++ [.data 3 ((sortL ((p :: e).map (·.1))).map iF)])
  | m + 1, p :: e => (.sl 4 0 (e.length + 1), dkR e1 (p :: e) (m + 1) ws fuse dead works ++ [.data 3 ((sortL ((p :: e).map (·.1))).map iF)])
set_option maxRecDepth 100000 in
theorem c_disk_Files (e1 e2 : Fs) (n : Nat) (ws : List Wk) (fuse : Int) (works : Int) (h : KeysIn e2) :
    Con Try.prog 19 [.pt 0 0] (dkR e1 e2 n ws fuse false works) fun r H' => r = (dkF e1 e2 n ws fuse false works).1 ∧ H' = (dkF e1 e2 n ws fuse false works).2 := by
  refine Con.walk good fn_disk_Files (by simp) ?_
  unfold s_disk_Files
  simp only [argsE, List.length_cons, List.length_nil, Nat.reduceAdd]
  rcases n with _ | n <;> rcases e2 with _ | ⟨p, e2⟩
  · repeat' (first | (with_reducible refine HS.seq ?_) | (with_reducible refine HS.opsK good (fun K hK => ?_)) | (with_reducible refine wpS_app (fun K hK => ?_)) | ((with_reducible refine hK _ ?_); clear hK K) | (with_reducible refine HS.drw good (fun K hK => ?_)) | ((with_reducible refine And.intro (Chk.mk' ?_) ?_); kernel_rfl) | (with_reducible refine HS.block ?_) | ((with_reducible refine HS.cond1 ?_ ?_); rfl) | ((with_reducible refine HS.cond0 ?_ ?_); rfl) | ((with_reducible apply HS.condB) <;> first | rfl | (with_reducible intro h)) | (with_reducible refine HS.exit ?_) | (with_reducible refine HS.ret ?_) | (with_reducible refine HS.skip ?_) | (with_reducible first | refine thenQ_n ?_ | refine blockQ_n ?_ | refine thenQ_r ?_ | refine blockQ_r ?_ | refine thenQ_x ?_ | refine blockQ_hit ?_ | refine endS_r ?_ | refine endS_n ?_) | ((with_reducible refine blockQ_miss ?_ ?_); rfl) | (with_reducible refine Two.mk' (fun h => ?_) (fun h => ?_) <;> try (exfalso; omega)) | ((with_reducible refine Bsel.mk' (fun h => ?_) (fun h => ?_)) <;> (try simp only [h])) | ((fail_if_success (with_reducible first | refine isHS ?_ | refine isRet ?_ | refine isCall ?_ | refine isNext ?_ | refine isNextP ?_ | refine isThen ?_ | refine isBlock ?_ | refine isOut ?_ | refine isOutN ?_)); simp (disch := omega) only [↓LD, LU, loadA_rf, wpS_nil, wpS_a, wpS_n, wpS_g, ↓Bsel_true, ↓Bsel_false, frm_get, frm_getD, frm_set, look_cons, look_nil, List.set_cons_succ, List.set_cons_zero, List.getElem?_cons_succ, List.getElem?_cons_zero, ↓bind'_some, ↓Two_true, ↓Two_false, List.length_cons, List.length_nil, List.cons_append, List.nil_append, List.map_cons, List.map_nil, List.take_succ_cons, List.take_zero, List.drop_succ_cons, List.drop_zero, Option.map_some, Option.map_none, ↓reduceIte, Nat.reduceAdd, Nat.reduceMul, Nat.reduceSub, Nat.reduceLeDiff, Nat.reduceLT, Nat.reduceEqDiff, Nat.add_zero, Nat.zero_add, Nat.mul_one, Int.toNat_natCast, Nat.mul_zero, Nat.zero_mul, true_and, and_true, reduceCtorEq, Int.reduceNeg, Int.reduceLT, Int.reduceLE, Int.reduceEq, Int.reduceToNat, wrap_in, List.getElem?_drop, List.getElem?_map, List.length_map, if_some, most_eq, set_map_b, app_map_i, getElem?_some_of, Int.natCast_nonneg, Bool.false_eq_true, decide_true, decide_false, Bool.not_true, Bool.not_false, and_self, eq_self, false_implies, or_self, Bool.and_self, false_or, or_false, Bool.false_and, Bool.true_beq, Bool.false_beq, dkR, dkB, dkP]) | ((with_reducible refine And.intro ?_ ?_); omega) | ((fail_if_success (with_reducible first | refine isHS ?_ | refine isRet ?_ | refine isCall ?_ | refine isNext ?_ | refine isNextP ?_ | refine isThen ?_ | refine isBlock ?_ | refine isOut ?_ | refine isOutN ?_)); (simp only [D.int, D.bool])))
    refine callW_emb (c_maps_Keys []) [2] (by kernel_rfl) rfl rfl ?_
    rintro _ _ ⟨rfl, rfl⟩
    repeat' (first | (with_reducible refine HS.seq ?_) | (with_reducible refine HS.opsK good (fun K hK => ?_)) | (with_reducible refine wpS_app (fun K hK => ?_)) | ((with_reducible refine hK _ ?_); clear hK K) | (with_reducible refine HS.drw good (fun K hK => ?_)) | ((with_reducible refine And.intro (Chk.mk' ?_) ?_); kernel_rfl) | (with_reducible refine HS.block ?_) | ((with_reducible refine HS.cond1 ?_ ?_); rfl) | ((with_reducible refine HS.cond0 ?_ ?_); rfl) | ((with_reducible apply HS.condB) <;> first | rfl | (with_reducible intro h)) | (with_reducible refine HS.exit ?_) | (with_reducible refine HS.ret ?_) | (with_reducible refine HS.skip ?_) | (with_reducible first | refine thenQ_n ?_ | refine blockQ_n ?_ | refine thenQ_r ?_ | refine blockQ_r ?_ | refine thenQ_x ?_ | refine blockQ_hit ?_ | refine endS_r ?_ | refine endS_n ?_) | ((with_reducible refine blockQ_miss ?_ ?_); rfl) | (with_reducible refine Two.mk' (fun h => ?_) (fun h => ?_) <;> try (exfalso; omega)) | ((with_reducible refine Bsel.mk' (fun h => ?_) (fun h => ?_)) <;> (try simp only [h])) | ((fail_if_success (with_reducible first | refine isHS ?_ | refine isRet ?_ | refine isCall ?_ | refine isNext ?_ | refine isNextP ?_ | refine isThen ?_ | refine isBlock ?_ | refine isOut ?_ | refine isOutN ?_)); simp (disch := omega) only [↓LD, LU, loadA_rf, wpS_nil, wpS_a, wpS_n, wpS_g, ↓Bsel_true, ↓Bsel_false, frm_get, frm_getD, frm_set, look_cons, look_nil, List.set_cons_succ, List.set_cons_zero, List.getElem?_cons_succ, List.getElem?_cons_zero, ↓bind'_some, ↓Two_true, ↓Two_false, List.length_cons, List.length_nil, List.cons_append, List.nil_append, List.map_cons, List.map_nil, List.take_succ_cons, List.take_zero, List.drop_succ_cons, List.drop_zero, Option.map_some, Option.map_none, ↓reduceIte, Nat.reduceAdd, Nat.reduceMul, Nat.reduceSub, Nat.reduceLeDiff, Nat.reduceLT, Nat.reduceEqDiff, Nat.add_zero, Nat.zero_add, Nat.mul_one, Int.toNat_natCast, Nat.mul_zero, Nat.zero_mul, true_and, and_true, reduceCtorEq, Int.reduceNeg, Int.reduceLT, Int.reduceLE, Int.reduceEq, Int.reduceToNat, wrap_in, List.getElem?_drop, List.getElem?_map, List.length_map, if_some, most_eq, set_map_b, app_map_i, getElem?_some_of, Int.natCast_nonneg, Bool.false_eq_true, decide_true, decide_false, Bool.not_true, Bool.not_false, and_self, eq_self, false_implies, or_self, Bool.and_self, false_or, or_false, Bool.false_and, Bool.true_beq, Bool.false_beq, List.append_nil, ren, List.getElem?_nil]) | ((with_reducible refine And.intro ?_ ?_); omega) | ((fail_if_success (with_reducible first | refine isHS ?_ | refine isRet ?_ | refine isCall ?_ | refine isNext ?_ | refine isNextP ?_ | refine isThen ?_ | refine isBlock ?_ | refine isOut ?_ | refine isOutN ?_)); (simp only [D.int, D.bool])))
    refine callW_emb (c_Sorted [] h) [2, 3] (by kernel_rfl) rfl rfl ?_
    rintro _ _ (⟨_, rfl, rfl⟩ | ⟨hne, rfl, rfl⟩)
    · repeat' (first | (with_reducible refine HS.seq ?_) | (with_reducible refine HS.opsK good (fun K hK => ?_)) | (with_reducible refine wpS_app (fun K hK => ?_)) | ((with_reducible refine hK _ ?_); clear hK K) | (with_reducible refine HS.drw good (fun K hK => ?_)) | ((with_reducible refine And.intro (Chk.mk' ?_) ?_); kernel_rfl) | (with_reducible refine HS.block ?_) | ((with_reducible refine HS.cond1 ?_ ?_); rfl) | ((with_reducible refine HS.cond0 ?_ ?_); rfl) | ((with_reducible apply HS.condB) <;> first | rfl | (with_reducible intro h)) | (with_reducible refine HS.exit ?_) | (with_reducible refine HS.ret ?_) | (with_reducible refine HS.skip ?_) | (with_reducible first | refine thenQ_n ?_ | refine blockQ_n ?_ | refine thenQ_r ?_ | refine blockQ_r ?_ | refine thenQ_x ?_ | refine blockQ_hit ?_ | refine endS_r ?_ | refine endS_n ?_) | ((with_reducible refine blockQ_miss ?_ ?_); rfl) | (with_reducible refine Two.mk' (fun h => ?_) (fun h => ?_) <;> try (exfalso; omega)) | ((with_reducible refine Bsel.mk' (fun h => ?_) (fun h => ?_)) <;> (try simp only [h])) | ((fail_if_success (with_reducible first | refine isHS ?_ | refine isRet ?_ | refine isCall ?_ | refine isNext ?_ | refine isNextP ?_ | refine isThen ?_ | refine isBlock ?_ | refine isOut ?_ | refine isOutN ?_)); simp (disch := omega) only [↓LD, LU, loadA_rf, wpS_nil, wpS_a, wpS_n, wpS_g, ↓Bsel_true, ↓Bsel_false, frm_get, frm_getD, frm_set, look_cons, look_nil, List.set_cons_succ, List.set_cons_zero, List.getElem?_cons_succ, List.getElem?_cons_zero, ↓bind'_some, ↓Two_true, ↓Two_false, List.length_cons, List.length_nil, List.cons_append, List.nil_append, List.map_cons, List.map_nil, List.take_succ_cons, List.take_zero, List.drop_succ_cons, List.drop_zero, Option.map_some, Option.map_none, ↓reduceIte, Nat.reduceAdd, Nat.reduceMul, Nat.reduceSub, Nat.reduceLeDiff, Nat.reduceLT, Nat.reduceEqDiff, Nat.add_zero, Nat.zero_add, Nat.mul_one, Int.toNat_natCast, Nat.mul_zero, Nat.zero_mul, true_and, and_true, reduceCtorEq, Int.reduceNeg, Int.reduceLT, Int.reduceLE, Int.reduceEq, Int.reduceToNat, wrap_in, List.getElem?_drop, List.getElem?_map, List.length_map, if_some, most_eq, set_map_b, app_map_i, getElem?_some_of, Int.natCast_nonneg, Bool.false_eq_true, decide_true, decide_false, Bool.not_true, Bool.not_false, and_self, eq_self, false_implies, or_self, Bool.and_self, false_or, or_false, Bool.false_and, Bool.true_beq, Bool.false_beq, List.append_nil, ren, List.getElem?_nil]) | ((with_reducible refine And.intro ?_ ?_); omega) | ((fail_if_success (with_reducible first | refine isHS ?_ | refine isRet ?_ | refine isCall ?_ | refine isNext ?_ | refine isNextP ?_ | refine isThen ?_ | refine isBlock ?_ | refine isOut ?_ | refine isOutN ?_)); (simp only [D.int, D.bool])))
      exact end1 rfl rfl (by kernel_rfl) .f ⟨rfl, rfl⟩
    · exact absurd rfl hne
  · repeat' (first | (with_reducible refine HS.seq ?_) | (with_reducible refine HS.opsK good (fun K hK => ?_)) | (with_reducible refine wpS_app (fun K hK => ?_)) | ((with_reducible refine hK _ ?_); clear hK K) | (with_reducible refine HS.drw good (fun K hK => ?_)) | ((with_reducible refine And.intro (Chk.mk' ?_) ?_); kernel_rfl) | (with_reducible refine HS.block ?_) | ((with_reducible refine HS.cond1 ?_ ?_); rfl) | ((with_reducible refine HS.cond0 ?_ ?_); rfl) | ((with_reducible apply HS.condB) <;> first | rfl | (with_reducible intro h)) | (with_reducible refine HS.exit ?_) | (with_reducible refine HS.ret ?_) | (with_reducible refine HS.skip ?_) | (with_reducible first | refine thenQ_n ?_ | refine blockQ_n ?_ | refine thenQ_r ?_ | refine blockQ_r ?_ | refine thenQ_x ?_ | refine blockQ_hit ?_ | refine endS_r ?_ | refine endS_n ?_) | ((with_reducible refine blockQ_miss ?_ ?_); rfl) | (with_reducible refine Two.mk' (fun h => ?_) (fun h => ?_) <;> try (exfalso; omega)) | ((with_reducible refine Bsel.mk' (fun h => ?_) (fun h => ?_)) <;> (try simp only [h])) | ((fail_if_success (with_reducible first | refine isHS ?_ | refine isRet ?_ | refine isCall ?_ | refine isNext ?_ | refine isNextP ?_ | refine isThen ?_ | refine isBlock ?_ | refine isOut ?_ | refine isOutN ?_)); simp (disch := omega) only [↓LD, LU, loadA_rf, wpS_nil, wpS_a, wpS_n, wpS_g, ↓Bsel_true, ↓Bsel_false, frm_get, frm_getD, frm_set, look_cons, look_nil, List.set_cons_succ, List.set_cons_zero, List.getElem?_cons_succ, List.getElem?_cons_zero, ↓bind'_some, ↓Two_true, ↓Two_false, List.length_cons, List.length_nil, List.cons_append, List.nil_append, List.map_cons, List.map_nil, List.take_succ_cons, List.take_zero, List.drop_succ_cons, List.drop_zero, Option.map_some, Option.map_none, ↓reduceIte, Nat.reduceAdd, Nat.reduceMul, Nat.reduceSub, Nat.reduceLeDiff, Nat.reduceLT, Nat.reduceEqDiff, Nat.add_zero, Nat.zero_add, Nat.mul_one, Int.toNat_natCast, Nat.mul_zero, Nat.zero_mul, true_and, and_true, reduceCtorEq, Int.reduceNeg, Int.reduceLT, Int.reduceLE, Int.reduceEq, Int.reduceToNat, wrap_in, List.getElem?_drop, List.getElem?_map, List.length_map, if_some, most_eq, set_map_b, app_map_i, getElem?_some_of, Int.natCast_nonneg, Bool.false_eq_true, decide_true, decide_false, Bool.not_true, Bool.not_false, and_self, eq_self, false_implies, or_self, Bool.and_self, false_or, or_false, Bool.false_and, Bool.true_beq, Bool.false_beq, dkR, dkB, dkP]) | ((with_reducible refine And.intro ?_ ?_); omega) | ((fail_if_success (with_reducible first | refine isHS ?_ | refine isRet ?_ | refine isCall ?_ | refine isNext ?_ | refine isNextP ?_ | refine isThen ?_ | refine isBlock ?_ | refine isOut ?_ | refine isOutN ?_)); (simp only [D.int, D.bool])))
    refine callW_emb (c_maps_Keys (p :: e2)) [2] (by kernel_rfl) rfl rfl ?_
    rintro _ _ ⟨rfl, rfl⟩
    repeat' (first | (with_reducible refine HS.seq ?_) | (with_reducible refine HS.opsK good (fun K hK => ?_)) | (with_reducible refine wpS_app (fun K hK => ?_)) | ((with_reducible refine hK _ ?_); clear hK K) | (with_reducible refine HS.drw good (fun K hK => ?_)) | ((with_reducible refine And.intro (Chk.mk' ?_) ?_); kernel_rfl) | (with_reducible refine HS.block ?_) | ((with_reducible refine HS.cond1 ?_ ?_); rfl) | ((with_reducible refine HS.cond0 ?_ ?_); rfl) | ((with_reducible apply HS.condB) <;> first | rfl | (with_reducible intro h)) | (with_reducible refine HS.exit ?_) | (with_reducible refine HS.ret ?_) | (with_reducible refine HS.skip ?_) | (with_reducible first | refine thenQ_n ?_ | refine blockQ_n ?_ | refine thenQ_r ?_ | refine blockQ_r ?_ | refine thenQ_x ?_ | refine blockQ_hit ?_ | refine endS_r ?_ | refine endS_n ?_) | ((with_reducible refine blockQ_miss ?_ ?_); rfl) | (with_reducible refine Two.mk' (fun h => ?_) (fun h => ?_) <;> try (exfalso; omega)) | ((with_reducible refine Bsel.mk' (fun h => ?_) (fun h => ?_)) <;> (try simp only [h])) | ((fail_if_success (with_reducible first | refine isHS ?_ | refine isRet ?_ | refine isCall ?_ | refine isNext ?_ | refine isNextP ?_ | refine isThen ?_ | refine isBlock ?_ | refine isOut ?_ | refine isOutN ?_)); simp (disch := omega) only [↓LD, LU, loadA_rf, wpS_nil, wpS_a, wpS_n, wpS_g, ↓Bsel_true, ↓Bsel_false, frm_get, frm_getD, frm_set, look_cons, look_nil, List.set_cons_succ, List.set_cons_zero, List.getElem?_cons_succ, List.getElem?_cons_zero, ↓bind'_some, ↓Two_true, ↓Two_false, List.length_cons, List.length_nil, List.cons_append, List.nil_append, List.map_cons, List.map_nil, List.take_succ_cons, List.take_zero, List.drop_succ_cons, List.drop_zero, Option.map_some, Option.map_none, ↓reduceIte, Nat.reduceAdd, Nat.reduceMul, Nat.reduceSub, Nat.reduceLeDiff, Nat.reduceLT, Nat.reduceEqDiff, Nat.add_zero, Nat.zero_add, Nat.mul_one, Int.toNat_natCast, Nat.mul_zero, Nat.zero_mul, true_and, and_true, reduceCtorEq, Int.reduceNeg, Int.reduceLT, Int.reduceLE, Int.reduceEq, Int.reduceToNat, wrap_in, List.getElem?_drop, List.getElem?_map, List.length_map, if_some, most_eq, set_map_b, app_map_i, getElem?_some_of, Int.natCast_nonneg, Bool.false_eq_true, decide_true, decide_false, Bool.not_true, Bool.not_false, and_self, eq_self, false_implies, or_self, Bool.and_self, false_or, or_false, Bool.false_and, Bool.true_beq, Bool.false_beq, List.append_nil, ren, List.getElem?_nil]) | ((with_reducible refine And.intro ?_ ?_); omega) | ((fail_if_success (with_reducible first | refine isHS ?_ | refine isRet ?_ | refine isCall ?_ | refine isNext ?_ | refine isNextP ?_ | refine isThen ?_ | refine isBlock ?_ | refine isOut ?_ | refine isOutN ?_)); (simp only [D.int, D.bool])))
    refine callW_emb (c_Sorted (p :: e2) h) [2, 3] (by kernel_rfl) rfl rfl ?_
    rintro _ _ (⟨hne, rfl, rfl⟩ | ⟨_, rfl, rfl⟩)
    · cases hne
    · simp (disch := omega) only [↓LD, LU, loadA_rf, wpS_nil, wpS_a, wpS_n, wpS_g, ↓Bsel_true, ↓Bsel_false, frm_get, frm_getD, frm_set, look_cons, look_nil, List.set_cons_succ, List.set_cons_zero, List.getElem?_cons_succ, List.getElem?_cons_zero, ↓bind'_some, ↓Two_true, ↓Two_false, List.length_cons, List.length_nil, List.cons_append, List.nil_append, List.map_cons, List.map_nil, List.take_succ_cons, List.take_zero, List.drop_succ_cons, List.drop_zero, Option.map_some, Option.map_none, ↓reduceIte, Nat.reduceAdd, Nat.reduceMul, Nat.reduceSub, Nat.reduceLeDiff, Nat.reduceLT, Nat.reduceEqDiff, Nat.add_zero, Nat.zero_add, Nat.mul_one, Int.toNat_natCast, Nat.mul_zero, Nat.zero_mul, true_and, and_true, reduceCtorEq, Int.reduceNeg, Int.reduceLT, Int.reduceLE, Int.reduceEq, Int.reduceToNat, wrap_in, List.getElem?_drop, List.getElem?_map, List.length_map, if_some, most_eq, set_map_b, app_map_i, getElem?_some_of, Int.natCast_nonneg, Bool.false_eq_true, decide_true, decide_false, Bool.not_true, Bool.not_false, and_self, eq_self, false_implies, or_self, Bool.and_self, false_or, or_false, Bool.false_and, Bool.true_beq, Bool.false_beq, ren, List.getElem?_nil, List.append_nil]
      repeat' (first | (with_reducible refine HS.seq ?_) | (with_reducible refine HS.opsK good (fun K hK => ?_)) | (with_reducible refine wpS_app (fun K hK => ?_)) | ((with_reducible refine hK _ ?_); clear hK K) | (with_reducible refine HS.drw good (fun K hK => ?_)) | ((with_reducible refine And.intro (Chk.mk' ?_) ?_); kernel_rfl) | (with_reducible refine HS.block ?_) | ((with_reducible refine HS.cond1 ?_ ?_); rfl) | ((with_reducible refine HS.cond0 ?_ ?_); rfl) | ((with_reducible apply HS.condB) <;> first | rfl | (with_reducible intro h)) | (with_reducible refine HS.exit ?_) | (with_reducible refine HS.ret ?_) | (with_reducible refine HS.skip ?_) | (with_reducible first | refine thenQ_n ?_ | refine blockQ_n ?_ | refine thenQ_r ?_ | refine blockQ_r ?_ | refine thenQ_x ?_ | refine blockQ_hit ?_ | refine endS_r ?_ | refine endS_n ?_) | ((with_reducible refine blockQ_miss ?_ ?_); rfl) | (with_reducible refine Two.mk' (fun h => ?_) (fun h => ?_) <;> try (exfalso; omega)) | ((with_reducible refine Bsel.mk' (fun h => ?_) (fun h => ?_)) <;> (try simp only [h])) | ((fail_if_success (with_reducible first | refine isHS ?_ | refine isRet ?_ | refine isCall ?_ | refine isNext ?_ | refine isNextP ?_ | refine isThen ?_ | refine isBlock ?_ | refine isOut ?_ | refine isOutN ?_)); simp (disch := omega) only [↓LD, LU, loadA_rf, wpS_nil, wpS_a, wpS_n, wpS_g, ↓Bsel_true, ↓Bsel_false, frm_get, frm_getD, frm_set, look_cons, look_nil, List.set_cons_succ, List.set_cons_zero, List.getElem?_cons_succ, List.getElem?_cons_zero, ↓bind'_some, ↓Two_true, ↓Two_false, List.length_cons, List.length_nil, List.cons_append, List.nil_append, List.map_cons, List.map_nil, List.take_succ_cons, List.take_zero, List.drop_succ_cons, List.drop_zero, Option.map_some, Option.map_none, ↓reduceIte, Nat.reduceAdd, Nat.reduceMul, Nat.reduceSub, Nat.reduceLeDiff, Nat.reduceLT, Nat.reduceEqDiff, Nat.add_zero, Nat.zero_add, Nat.mul_one, Int.toNat_natCast, Nat.mul_zero, Nat.zero_mul, true_and, and_true, reduceCtorEq, Int.reduceNeg, Int.reduceLT, Int.reduceLE, Int.reduceEq, Int.reduceToNat, wrap_in, List.getElem?_drop, List.getElem?_map, List.length_map, if_some, most_eq, set_map_b, app_map_i, getElem?_some_of, Int.natCast_nonneg, Bool.false_eq_true, decide_true, decide_false, Bool.not_true, Bool.not_false, and_self, eq_self, false_implies, or_self, Bool.and_self, false_or, or_false, Bool.false_and, Bool.true_beq, Bool.false_beq, List.append_nil, ren, List.getElem?_nil]) | ((with_reducible refine And.intro ?_ ?_); omega) | ((fail_if_success (with_reducible first | refine isHS ?_ | refine isRet ?_ | refine isCall ?_ | refine isNext ?_ | refine isNextP ?_ | refine isThen ?_ | refine isBlock ?_ | refine isOut ?_ | refine isOutN ?_)); (simp only [D.int, D.bool])))
      exact endG rfl rfl (ef := ⟨.sl 3 0 (e2.length + 1), [(0, dkB 3 0 fuse false works), (1, .map (mF e1)), (2, .map (mF (p :: e2)))], [.data 3 ((sortL ((p :: e2).map (·.1))).map iF)]⟩) (by kernel_rfl) ⟨rfl, rfl⟩
  · repeat' (first | (with_reducible refine HS.seq ?_) | (with_reducible refine HS.opsK good (fun K hK => ?_)) | (with_reducible refine wpS_app (fun K hK => ?_)) | ((with_reducible refine hK _ ?_); clear hK K) | (with_reducible refine HS.drw good (fun K hK => ?_)) | ((with_reducible refine And.intro (Chk.mk' ?_) ?_); kernel_rfl) | (with_reducible refine HS.block ?_) | ((with_reducible refine HS.cond1 ?_ ?_); rfl) | ((with_reducible refine HS.cond0 ?_ ?_); rfl) | ((with_reducible apply HS.condB) <;> first | rfl | (with_reducible intro h)) | (with_reducible refine HS.exit ?_) | (with_reducible refine HS.ret ?_) | (with_reducible refine HS.skip ?_) | (with_reducible first | refine thenQ_n ?_ | refine blockQ_n ?_ | refine thenQ_r ?_ | refine blockQ_r ?_ | refine thenQ_x ?_ | refine blockQ_hit ?_ | refine endS_r ?_ | refine endS_n ?_) | ((with_reducible refine blockQ_miss ?_ ?_); rfl) | (with_reducible refine Two.mk' (fun h => ?_) (fun h => ?_) <;> try (exfalso; omega)) | ((with_reducible refine Bsel.mk' (fun h => ?_) (fun h => ?_)) <;> (try simp only [h])) | ((fail_if_success (with_reducible first | refine isHS ?_ | refine isRet ?_ | refine isCall ?_ | refine isNext ?_ | refine isNextP ?_ | refine isThen ?_ | refine isBlock ?_ | refine isOut ?_ | refine isOutN ?_)); simp (disch := omega) only [↓LD, LU, loadA_rf, wpS_nil, wpS_a, wpS_n, wpS_g, ↓Bsel_true, ↓Bsel_false, frm_get, frm_getD, frm_set, look_cons, look_nil, List.set_cons_succ, List.set_cons_zero, List.getElem?_cons_succ, List.getElem?_cons_zero, ↓bind'_some, ↓Two_true, ↓Two_false, List.length_cons, List.length_nil, List.cons_append, List.nil_append, List.map_cons, List.map_nil, List.take_succ_cons, List.take_zero, List.drop_succ_cons, List.drop_zero, Option.map_some, Option.map_none, ↓reduceIte, Nat.reduceAdd, Nat.reduceMul, Nat.reduceSub, Nat.reduceLeDiff, Nat.reduceLT, Nat.reduceEqDiff, Nat.add_zero, Nat.zero_add, Nat.mul_one, Int.toNat_natCast, Nat.mul_zero, Nat.zero_mul, true_and, and_true, reduceCtorEq, Int.reduceNeg, Int.reduceLT, Int.reduceLE, Int.reduceEq, Int.reduceToNat, wrap_in, List.getElem?_drop, List.getElem?_map, List.length_map, if_some, most_eq, set_map_b, app_map_i, getElem?_some_of, Int.natCast_nonneg, Bool.false_eq_true, decide_true, decide_false, Bool.not_true, Bool.not_false, and_self, eq_self, false_implies, or_self, Bool.and_self, false_or, or_false, Bool.false_and, Bool.true_beq, Bool.false_beq, dkR, dkB, dkP]) | ((with_reducible refine And.intro ?_ ?_); omega) | ((fail_if_success (with_reducible first | refine isHS ?_ | refine isRet ?_ | refine isCall ?_ | refine isNext ?_ | refine isNextP ?_ | refine isThen ?_ | refine isBlock ?_ | refine isOut ?_ | refine isOutN ?_)); (simp only [D.int, D.bool])))
    refine callW_emb (c_maps_Keys []) [2] (by kernel_rfl) rfl rfl ?_
    rintro _ _ ⟨rfl, rfl⟩
    repeat' (first | (with_reducible refine HS.seq ?_) | (with_reducible refine HS.opsK good (fun K hK => ?_)) | (with_reducible refine wpS_app (fun K hK => ?_)) | ((with_reducible refine hK _ ?_); clear hK K) | (with_reducible refine HS.drw good (fun K hK => ?_)) | ((with_reducible refine And.intro (Chk.mk' ?_) ?_); kernel_rfl) | (with_reducible refine HS.block ?_) | ((with_reducible refine HS.cond1 ?_ ?_); rfl) | ((with_reducible refine HS.cond0 ?_ ?_); rfl) | ((with_reducible apply HS.condB) <;> first | rfl | (with_reducible intro h)) | (with_reducible refine HS.exit ?_) | (with_reducible refine HS.ret ?_) | (with_reducible refine HS.skip ?_) | (with_reducible first | refine thenQ_n ?_ | refine blockQ_n ?_ | refine thenQ_r ?_ | refine blockQ_r ?_ | refine thenQ_x ?_ | refine blockQ_hit ?_ | refine endS_r ?_ | refine endS_n ?_) | ((with_reducible refine blockQ_miss ?_ ?_); rfl) | (with_reducible refine Two.mk' (fun h => ?_) (fun h => ?_) <;> try (exfalso; omega)) | ((with_reducible refine Bsel.mk' (fun h => ?_) (fun h => ?_)) <;> (try simp only [h])) | ((fail_if_success (with_reducible first | refine isHS ?_ | refine isRet ?_ | refine isCall ?_ | refine isNext ?_ | refine isNextP ?_ | refine isThen ?_ | refine isBlock ?_ | refine isOut ?_ | refine isOutN ?_)); simp (disch := omega) only [↓LD, LU, loadA_rf, wpS_nil, wpS_a, wpS_n, wpS_g, ↓Bsel_true, ↓Bsel_false, frm_get, frm_getD, frm_set, look_cons, look_nil, List.set_cons_succ, List.set_cons_zero, List.getElem?_cons_succ, List.getElem?_cons_zero, ↓bind'_some, ↓Two_true, ↓Two_false, List.length_cons, List.length_nil, List.cons_append, List.nil_append, List.map_cons, List.map_nil, List.take_succ_cons, List.take_zero, List.drop_succ_cons, List.drop_zero, Option.map_some, Option.map_none, ↓reduceIte, Nat.reduceAdd, Nat.reduceMul, Nat.reduceSub, Nat.reduceLeDiff, Nat.reduceLT, Nat.reduceEqDiff, Nat.add_zero, Nat.zero_add, Nat.mul_one, Int.toNat_natCast, Nat.mul_zero, Nat.zero_mul, true_and, and_true, reduceCtorEq, Int.reduceNeg, Int.reduceLT, Int.reduceLE, Int.reduceEq, Int.reduceToNat, wrap_in, List.getElem?_drop, List.getElem?_map, List.length_map, if_some, most_eq, set_map_b, app_map_i, getElem?_some_of, Int.natCast_nonneg, Bool.false_eq_true, decide_true, decide_false, Bool.not_true, Bool.not_false, and_self, eq_self, false_implies, or_self, Bool.and_self, false_or, or_false, Bool.false_and, Bool.true_beq, Bool.false_beq, List.append_nil, ren, List.getElem?_nil]) | ((with_reducible refine And.intro ?_ ?_); omega) | ((fail_if_success (with_reducible first | refine isHS ?_ | refine isRet ?_ | refine isCall ?_ | refine isNext ?_ | refine isNextP ?_ | refine isThen ?_ | refine isBlock ?_ | refine isOut ?_ | refine isOutN ?_)); (simp only [D.int, D.bool])))
    refine callW_emb (c_Sorted [] h) [2, 4] (by kernel_rfl) rfl rfl ?_
    rintro _ _ (⟨_, rfl, rfl⟩ | ⟨hne, rfl, rfl⟩)
    · repeat' (first | (with_reducible refine HS.seq ?_) | (with_reducible refine HS.opsK good (fun K hK => ?_)) | (with_reducible refine wpS_app (fun K hK => ?_)) | ((with_reducible refine hK _ ?_); clear hK K) | (with_reducible refine HS.drw good (fun K hK => ?_)) | ((with_reducible refine And.intro (Chk.mk' ?_) ?_); kernel_rfl) | (with_reducible refine HS.block ?_) | ((with_reducible refine HS.cond1 ?_ ?_); rfl) | ((with_reducible refine HS.cond0 ?_ ?_); rfl) | ((with_reducible apply HS.condB) <;> first | rfl | (with_reducible intro h)) | (with_reducible refine HS.exit ?_) | (with_reducible refine HS.ret ?_) | (with_reducible refine HS.skip ?_) | (with_reducible first | refine thenQ_n ?_ | refine blockQ_n ?_ | refine thenQ_r ?_ | refine blockQ_r ?_ | refine thenQ_x ?_ | refine blockQ_hit ?_ | refine endS_r ?_ | refine endS_n ?_) | ((with_reducible refine blockQ_miss ?_ ?_); rfl) | (with_reducible refine Two.mk' (fun h => ?_) (fun h => ?_) <;> try (exfalso; omega)) | ((with_reducible refine Bsel.mk' (fun h => ?_) (fun h => ?_)) <;> (try simp only [h])) | ((fail_if_success (with_reducible first | refine isHS ?_ | refine isRet ?_ | refine isCall ?_ | refine isNext ?_ | refine isNextP ?_ | refine isThen ?_ | refine isBlock ?_ | refine isOut ?_ | refine isOutN ?_)); simp (disch := omega) only [↓LD, LU, loadA_rf, wpS_nil, wpS_a, wpS_n, wpS_g, ↓Bsel_true, ↓Bsel_false, frm_get, frm_getD, frm_set, look_cons, look_nil, List.set_cons_succ, List.set_cons_zero, List.getElem?_cons_succ, List.getElem?_cons_zero, ↓bind'_some, ↓Two_true, ↓Two_false, List.length_cons, List.length_nil, List.cons_append, List.nil_append, List.map_cons, List.map_nil, List.take_succ_cons, List.take_zero, List.drop_succ_cons, List.drop_zero, Option.map_some, Option.map_none, ↓reduceIte, Nat.reduceAdd, Nat.reduceMul, Nat.reduceSub, Nat.reduceLeDiff, Nat.reduceLT, Nat.reduceEqDiff, Nat.add_zero, Nat.zero_add, Nat.mul_one, Int.toNat_natCast, Nat.mul_zero, Nat.zero_mul, true_and, and_true, reduceCtorEq, Int.reduceNeg, Int.reduceLT, Int.reduceLE, Int.reduceEq, Int.reduceToNat, wrap_in, List.getElem?_drop, List.getElem?_map, List.length_map, if_some, most_eq, set_map_b, app_map_i, getElem?_some_of, Int.natCast_nonneg, Bool.false_eq_true, decide_true, decide_false, Bool.not_true, Bool.not_false, and_self, eq_self, false_implies, or_self, Bool.and_self, false_or, or_false, Bool.false_and, Bool.true_beq, Bool.false_beq, List.append_nil, ren, List.getElem?_nil]) | ((with_reducible refine And.intro ?_ ?_); omega) | ((fail_if_success (with_reducible first | refine isHS ?_ | refine isRet ?_ | refine isCall ?_ | refine isNext ?_ | refine isNextP ?_ | refine isThen ?_ | refine isBlock ?_ | refine isOut ?_ | refine isOutN ?_)); (simp only [D.int, D.bool])))
      exact end1 rfl rfl (by kernel_rfl) .f ⟨rfl, rfl⟩
    · exact absurd rfl hne
  · repeat' (first | (with_reducible refine HS.seq ?_) | (with_reducible refine HS.opsK good (fun K hK => ?_)) | (with_reducible refine wpS_app (fun K hK => ?_)) | ((with_reducible refine hK _ ?_); clear hK K) | (with_reducible refine HS.drw good (fun K hK => ?_)) | ((with_reducible refine And.intro (Chk.mk' ?_) ?_); kernel_rfl) | (with_reducible refine HS.block ?_) | ((with_reducible refine HS.cond1 ?_ ?_); rfl) | ((with_reducible refine HS.cond0 ?_ ?_); rfl) | ((with_reducible apply HS.condB) <;> first | rfl | (with_reducible intro h)) | (with_reducible refine HS.exit ?_) | (with_reducible refine HS.ret ?_) | (with_reducible refine HS.skip ?_) | (with_reducible first | refine thenQ_n ?_ | refine blockQ_n ?_ | refine thenQ_r ?_ | refine blockQ_r ?_ | refine thenQ_x ?_ | refine blockQ_hit ?_ | refine endS_r ?_ | refine endS_n ?_) | ((with_reducible refine blockQ_miss ?_ ?_); rfl) | (with_reducible refine Two.mk' (fun h => ?_) (fun h => ?_) <;> try (exfalso; omega)) | ((with_reducible refine Bsel.mk' (fun h => ?_) (fun h => ?_)) <;> (try simp only [h])) | ((fail_if_success (with_reducible first | refine isHS ?_ | refine isRet ?_ | refine isCall ?_ | refine isNext ?_ | refine isNextP ?_ | refine isThen ?_ | refine isBlock ?_ | refine isOut ?_ | refine isOutN ?_)); simp (disch := omega) only [↓LD, LU, loadA_rf, wpS_nil, wpS_a, wpS_n, wpS_g, ↓Bsel_true, ↓Bsel_false, frm_get, frm_getD, frm_set, look_cons, look_nil, List.set_cons_succ, List.set_cons_zero, List.getElem?_cons_succ, List.getElem?_cons_zero, ↓bind'_some, ↓Two_true, ↓Two_false, List.length_cons, List.length_nil, List.cons_append, List.nil_append, List.map_cons, List.map_nil, List.take_succ_cons, List.take_zero, List.drop_succ_cons, List.drop_zero, Option.map_some, Option.map_none, ↓reduceIte, Nat.reduceAdd, Nat.reduceMul, Nat.reduceSub, Nat.reduceLeDiff, Nat.reduceLT, Nat.reduceEqDiff, Nat.add_zero, Nat.zero_add, Nat.mul_one, Int.toNat_natCast, Nat.mul_zero, Nat.zero_mul, true_and, and_true, reduceCtorEq, Int.reduceNeg, Int.reduceLT, Int.reduceLE, Int.reduceEq, Int.reduceToNat, wrap_in, List.getElem?_drop, List.getElem?_map, List.length_map, if_some, most_eq, set_map_b, app_map_i, getElem?_some_of, Int.natCast_nonneg, Bool.false_eq_true, decide_true, decide_false, Bool.not_true, Bool.not_false, and_self, eq_self, false_implies, or_self, Bool.and_self, false_or, or_false, Bool.false_and, Bool.true_beq, Bool.false_beq, dkR, dkB, dkP]) | ((with_reducible refine And.intro ?_ ?_); omega) | ((fail_if_success (with_reducible first | refine isHS ?_ | refine isRet ?_ | refine isCall ?_ | refine isNext ?_ | refine isNextP ?_ | refine isThen ?_ | refine isBlock ?_ | refine isOut ?_ | refine isOutN ?_)); (simp only [D.int, D.bool])))
    refine callW_emb (c_maps_Keys (p :: e2)) [2] (by kernel_rfl) rfl rfl ?_
    rintro _ _ ⟨rfl, rfl⟩
    repeat' (first | (with_reducible refine HS.seq ?_) | (with_reducible refine HS.opsK good (fun K hK => ?_)) | (with_reducible refine wpS_app (fun K hK => ?_)) | ((with_reducible refine hK _ ?_); clear hK K) | (with_reducible refine HS.drw good (fun K hK => ?_)) | ((with_reducible refine And.intro (Chk.mk' ?_) ?_); kernel_rfl) | (with_reducible refine HS.block ?_) | ((with_reducible refine HS.cond1 ?_ ?_); rfl) | ((with_reducible refine HS.cond0 ?_ ?_); rfl) | ((with_reducible apply HS.condB) <;> first | rfl | (with_reducible intro h)) | (with_reducible refine HS.exit ?_) | (with_reducible refine HS.ret ?_) | (with_reducible refine HS.skip ?_) | (with_reducible first | refine thenQ_n ?_ | refine blockQ_n ?_ | refine thenQ_r ?_ | refine blockQ_r ?_ | refine thenQ_x ?_ | refine blockQ_hit ?_ | refine endS_r ?_ | refine endS_n ?_) | ((with_reducible refine blockQ_miss ?_ ?_); rfl) | (with_reducible refine Two.mk' (fun h => ?_) (fun h => ?_) <;> try (exfalso; omega)) | ((with_reducible refine Bsel.mk' (fun h => ?_) (fun h => ?_)) <;> (try simp only [h])) | ((fail_if_success (with_reducible first | refine isHS ?_ | refine isRet ?_ | refine isCall ?_ | refine isNext ?_ | refine isNextP ?_ | refine isThen ?_ | refine isBlock ?_ | refine isOut ?_ | refine isOutN ?_)); simp (disch := omega) only [↓LD, LU, loadA_rf, wpS_nil, wpS_a, wpS_n, wpS_g, ↓Bsel_true, ↓Bsel_false, frm_get, frm_getD, frm_set, look_cons, look_nil, List.set_cons_succ, List.set_cons_zero, List.getElem?_cons_succ, List.getElem?_cons_zero, ↓bind'_some, ↓Two_true, ↓Two_false, List.length_cons, List.length_nil, List.cons_append, List.nil_append, List.map_cons, List.map_nil, List.take_succ_cons, List.take_zero, List.drop_succ_cons, List.drop_zero, Option.map_some, Option.map_none, ↓reduceIte, Nat.reduceAdd, Nat.reduceMul, Nat.reduceSub, Nat.reduceLeDiff, Nat.reduceLT, Nat.reduceEqDiff, Nat.add_zero, Nat.zero_add, Nat.mul_one, Int.toNat_natCast, Nat.mul_zero, Nat.zero_mul, true_and, and_true, reduceCtorEq, Int.reduceNeg, Int.reduceLT, Int.reduceLE, Int.reduceEq, Int.reduceToNat, wrap_in, List.getElem?_drop, List.getElem?_map, List.length_map, if_some, most_eq, set_map_b, app_map_i, getElem?_some_of, Int.natCast_nonneg, Bool.false_eq_true, decide_true, decide_false, Bool.not_true, Bool.not_false, and_self, eq_self, false_implies, or_self, Bool.and_self, false_or, or_false, Bool.false_and, Bool.true_beq, Bool.false_beq, List.append_nil, ren, List.getElem?_nil]) | ((with_reducible refine And.intro ?_ ?_); omega) | ((fail_if_success (with_reducible first | refine isHS ?_ | refine isRet ?_ | refine isCall ?_ | refine isNext ?_ | refine isNextP ?_ | refine isThen ?_ | refine isBlock ?_ | refine isOut ?_ | refine isOutN ?_)); (simp only [D.int, D.bool])))
    refine callW_emb (c_Sorted (p :: e2) h) [2, 4] (by kernel_rfl) rfl rfl ?_
    rintro _ _ (⟨hne, rfl, rfl⟩ | ⟨_, rfl, rfl⟩)
    · cases hne
    · simp (disch := omega) only [↓LD, LU, loadA_rf, wpS_nil, wpS_a, wpS_n, wpS_g, ↓Bsel_true, ↓Bsel_false, frm_get, frm_getD, frm_set, look_cons, look_nil, List.set_cons_succ, List.set_cons_zero, List.getElem?_cons_succ, List.getElem?_cons_zero, ↓bind'_some, ↓Two_true, ↓Two_false, List.length_cons, List.length_nil, List.cons_append, List.nil_append, List.map_cons, List.map_nil, List.take_succ_cons, List.take_zero, List.drop_succ_cons, List.drop_zero, Option.map_some, Option.map_none, ↓reduceIte, Nat.reduceAdd, Nat.reduceMul, Nat.reduceSub, Nat.reduceLeDiff, Nat.reduceLT, Nat.reduceEqDiff, Nat.add_zero, Nat.zero_add, Nat.mul_one, Int.toNat_natCast, Nat.mul_zero, Nat.zero_mul, true_and, and_true, reduceCtorEq, Int.reduceNeg, Int.reduceLT, Int.reduceLE, Int.reduceEq, Int.reduceToNat, wrap_in, List.getElem?_drop, List.getElem?_map, List.length_map, if_some, most_eq, set_map_b, app_map_i, getElem?_some_of, Int.natCast_nonneg, Bool.false_eq_true, decide_true, decide_false, Bool.not_true, Bool.not_false, and_self, eq_self, false_implies, or_self, Bool.and_self, false_or, or_false, Bool.false_and, Bool.true_beq, Bool.false_beq, ren, List.getElem?_nil, List.append_nil]
      repeat' (first | (with_reducible refine HS.seq ?_) | (with_reducible refine HS.opsK good (fun K hK => ?_)) | (with_reducible refine wpS_app (fun K hK => ?_)) | ((with_reducible refine hK _ ?_); clear hK K) | (with_reducible refine HS.drw good (fun K hK => ?_)) | ((with_reducible refine And.intro (Chk.mk' ?_) ?_); kernel_rfl) | (with_reducible refine HS.block ?_) | ((with_reducible refine HS.cond1 ?_ ?_); rfl) | ((with_reducible refine HS.cond0 ?_ ?_); rfl) | ((with_reducible apply HS.condB) <;> first | rfl | (with_reducible intro h)) | (with_reducible refine HS.exit ?_) | (with_reducible refine HS.ret ?_) | (with_reducible refine HS.skip ?_) | (with_reducible first | refine thenQ_n ?_ | refine blockQ_n ?_ | refine thenQ_r ?_ | refine blockQ_r ?_ | refine thenQ_x ?_ | refine blockQ_hit ?_ | refine endS_r ?_ | refine endS_n ?_) | ((with_reducible refine blockQ_miss ?_ ?_); rfl) | (with_reducible refine Two.mk' (fun h => ?_) (fun h => ?_) <;> try (exfalso; omega)) | ((with_reducible refine Bsel.mk' (fun h => ?_) (fun h => ?_)) <;> (try simp only [h])) | ((fail_if_success (with_reducible first | refine isHS ?_ | refine isRet ?_ | refine isCall ?_ | refine isNext ?_ | refine isNextP ?_ | refine isThen ?_ | refine isBlock ?_ | refine isOut ?_ | refine isOutN ?_)); simp (disch := omega) only [↓LD, LU, loadA_rf, wpS_nil, wpS_a, wpS_n, wpS_g, ↓Bsel_true, ↓Bsel_false, frm_get, frm_getD, frm_set, look_cons, look_nil, List.set_cons_succ, List.set_cons_zero, List.getElem?_cons_succ, List.getElem?_cons_zero, ↓bind'_some, ↓Two_true, ↓Two_false, List.length_cons, List.length_nil, List.cons_append, List.nil_append, List.map_cons, List.map_nil, List.take_succ_cons, List.take_zero, List.drop_succ_cons, List.drop_zero, Option.map_some, Option.map_none, ↓reduceIte, Nat.reduceAdd, Nat.reduceMul, Nat.reduceSub, Nat.reduceLeDiff, Nat.reduceLT, Nat.reduceEqDiff, Nat.add_zero, Nat.zero_add, Nat.mul_one, Int.toNat_natCast, Nat.mul_zero, Nat.zero_mul, true_and, and_true, reduceCtorEq, Int.reduceNeg, Int.reduceLT, Int.reduceLE, Int.reduceEq, Int.reduceToNat, wrap_in, List.getElem?_drop, List.getElem?_map, List.length_map, if_some, most_eq, set_map_b, app_map_i, getElem?_some_of, Int.natCast_nonneg, Bool.false_eq_true, decide_true, decide_false, Bool.not_true, Bool.not_false, and_self, eq_self, false_implies, or_self, Bool.and_self, false_or, or_false, Bool.false_and, Bool.true_beq, Bool.false_beq, List.append_nil, ren, List.getElem?_nil]) | ((with_reducible refine And.intro ?_ ?_); omega) | ((fail_if_success (with_reducible first | refine isHS ?_ | refine isRet ?_ | refine isCall ?_ | refine isNext ?_ | refine isNextP ?_ | refine isThen ?_ | refine isBlock ?_ | refine isOut ?_ | refine isOutN ?_)); (simp only [D.int, D.bool])))
      exact endG rfl rfl (ef := ⟨.sl 4 0 (e2.length + 1), [(0, dkB 3 (n + 1) fuse false works), (1, .map (mF e1)), (2, .map (mF (p :: e2))), (3, .data 79 (ws.flatMap Wk.cs))], [.data 3 ((sortL ((p :: e2).map (·.1))).map iF)]⟩) (by kernel_rfl) ⟨rfl, rfl⟩
/-- .. over the list that is told. -/
def dkFS (e1 e2 : Fs) (n : Nat) (ws : List Wk) (fuse : Int) (dead : Bool) (works : Int) (S : List Int) : D × List Row := match n, S with
  | n, [] => (.f (.v (.slice none 0 0)), dkR e1 e2 n ws fuse dead works)
  | 0, x :: S => (.sl 3 0 (S.length + 1), dkR e1 e2 0 ws fuse dead works ++ [.data 3 ((x :: S).map iF)])
  | m + 1, x :: S => (.sl 4 0 (S.length + 1), dkR e1 e2 (m + 1) ws fuse dead works ++ [.data 3 ((x :: S).map iF)])
theorem c_disk_FilesS (e1 e2 : Fs) (n : Nat) (ws : List Wk) (fuse : Int) (works : Int) (S : List Int) (h : KeysIn e2) (hS : sortL (e2.map (·.1)) = S) :
    Con Try.prog 19 [.pt 0 0] (dkR e1 e2 n ws fuse false works) fun r H' => r = (dkFS e1 e2 n ws fuse false works S).1 ∧ H' = (dkFS e1 e2 n ws fuse false works S).2 := by
  refine (c_disk_Files e1 e2 n ws fuse works h).mono ?_
  have hl := sortL_len (e2.map (·.1))
  rw [hS, List.length_map] at hl
  rcases e2 with _ | ⟨p, e2⟩
  · obtain rfl : S = [] := List.eq_nil_of_length_eq_zero hl
    rintro r H' ⟨rfl, rfl⟩
    cases n <;> exact ⟨rfl, rfl⟩
  · rcases S with _ | ⟨x, S⟩
    · simp at hl
    · simp only [List.length_cons] at hl
      rintro r H' ⟨rfl, rfl⟩
      rcases n with _ | n
      · refine ⟨?_, ?_⟩
        · show D.sl 3 0 (e2.length + 1) = .sl 3 0 (S.length + 1)
          rw [hl]
        · show dkR e1 (p :: e2) 0 ws fuse false works ++ [.data 3 ((sortL ((p :: e2).map (·.1))).map iF)] = _
          rw [hS]; rfl
      · refine ⟨?_, ?_⟩
        · show D.sl 4 0 (e2.length + 1) = .sl 4 0 (S.length + 1)
          rw [hl]
        · show dkR e1 (p :: e2) (n + 1) ws fuse false works ++ [.data 3 ((sortL ((p :: e2).map (·.1))).map iF)] = _
          rw [hS]; rfl
end Go.Proofs.Ytjbkckhpoicaeaa.Mir
