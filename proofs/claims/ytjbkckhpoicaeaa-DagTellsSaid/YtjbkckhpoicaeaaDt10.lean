/- Texts laid into one file: DagP, DagM, DagQ, MirSortG, MirSorted, DagS, DagT. -/
import Derived.Test.YtjbkckhpoicaeaaDt09
import Derived.Shelf.SlIterI.Nil
import Derived.Shelf.SlIter.Nil
import Derived.Shelf.SortM.Plain
import Derived.Shelf.SortM.SortNone
import Derived.Ground.GgzProg
import Derived.Ground.SlgmProg

set_option linter.unusedVariables false
set_option linter.unusedSimpArgs false
/- Ints: Clone, Contains, Max; the program's Depth. -/
namespace Go.Proofs.Ytjbkckhpoicaeaa.Mir
open Go Go.RowKit
set_option linter.unusedVariables false
set_option linter.unusedSimpArgs false
set_option maxHeartbeats 2000000

theorem set_map_i {l : List Int} {i : Nat} {z : Int} : (l.map iF).set i (.v (.int .i64 z)) = (l.set i z).map iF := by rw [List.map_set]
theorem mk_ints (n : Nat) : (List.range n).map (fun j => [F.v (.int .i64 0)].getD (j % 1) (.v Go.undef)) = (List.replicate n (0 : Int)).map iF := by
  apply List.ext_getElem
  · simp
  · intro i h1 h2; simp [Nat.mod_one]
theorem c_int_Clone (l : List Int) (hl : l.length ≤ 1000000) : Con Try.prog 45 [.f (fI l)] [] fun r H' => (l = [] ∧ r = .f (.v (.slice none 0 0)) ∧ H' = []) ∨ (r = .sl 0 0 l.length ∧ H' = [.data 3 (l.map iF)]) := by
  refine Con.walk good fn_int_Clone (by simp) ?_
  unfold s_int_Clone
  simp only [argsE, List.length_cons, List.length_nil, Nat.reduceAdd]
  repeat' (first | (with_reducible first | refine r1 ?_ | refine rK fun K hK => ?_ | refine wpS_app fun K hK => ?_ | (refine hK _ ?_; clear hK K) | refine rL fun K hK => ?_) | ((with_reducible refine And.intro (Chk.mk' ?_) ?_); kernel_rfl) | ((with_reducible refine HS.cond1 ?_ ?_); rfl) | ((with_reducible refine HS.cond0 ?_ ?_); rfl) | ((with_reducible apply HS.condB) <;> first | rfl | (with_reducible intro h)) | (with_reducible first | refine r2 ?_ | refine r3 ?_ | refine r4 ?_ | refine r5 ?_ | refine r6 ?_ | refine r7 ?_ | refine r8 ?_ | refine r9 ?_ | refine rA ?_ | refine rB ?_ | refine rC ?_ | refine rD ?_) | ((with_reducible refine blockQ_miss ?_ ?_); rfl) | (with_reducible refine Two.mk' (fun h => ?_) (fun h => ?_) <;> try (exfalso; omega)) | ((with_reducible refine Bsel.mk' (fun h => ?_) (fun h => ?_)) <;> (try simp only [h])) | ((fail_if_success (with_reducible first | refine s1 ?_ | refine s2 ?_ | refine s3 ?_ | refine s4 ?_ | refine s5 ?_ | refine s6 ?_ | refine s7 ?_ | refine s8 ?_ | refine s9 ?_)); simp (disch := omega) only [↓LD, LU, LS, LT, loadA_rf, ↓reduceIte, reduceCtorEq, Nat.reduceAdd, Nat.reduceMul, Nat.reduceSub, Nat.reduceLeDiff, Nat.reduceLT, Nat.reduceEqDiff, Int.reduceNeg, Int.reduceLT, Int.reduceLE, Int.reduceEq, Int.reduceToNat, fI]) | ((with_reducible refine And.intro ?_ ?_); omega) | ((fail_if_success (with_reducible first | refine s1 ?_ | refine s2 ?_ | refine s3 ?_ | refine s4 ?_ | refine s5 ?_ | refine s6 ?_ | refine s7 ?_ | refine s8 ?_ | refine s9 ?_)); simp only [D.int, D.bool]))
  refine And.intro (fun h0 => ?_) ?_
  · repeat' (first | (with_reducible first | refine r1 ?_ | refine rK fun K hK => ?_ | refine wpS_app fun K hK => ?_ | (refine hK _ ?_; clear hK K) | refine rL fun K hK => ?_) | ((with_reducible refine And.intro (Chk.mk' ?_) ?_); kernel_rfl) | ((with_reducible refine HS.cond1 ?_ ?_); rfl) | ((with_reducible refine HS.cond0 ?_ ?_); rfl) | ((with_reducible apply HS.condB) <;> first | rfl | (with_reducible intro h)) | (with_reducible first | refine r2 ?_ | refine r3 ?_ | refine r4 ?_ | refine r5 ?_ | refine r6 ?_ | refine r7 ?_ | refine r8 ?_ | refine r9 ?_ | refine rA ?_ | refine rB ?_ | refine rC ?_ | refine rD ?_) | ((with_reducible refine blockQ_miss ?_ ?_); rfl) | (with_reducible refine Two.mk' (fun h => ?_) (fun h => ?_) <;> try (exfalso; omega)) | ((with_reducible refine Bsel.mk' (fun h => ?_) (fun h => ?_)) <;> (try simp only [h])) | ((fail_if_success (with_reducible first | refine s1 ?_ | refine s2 ?_ | refine s3 ?_ | refine s4 ?_ | refine s5 ?_ | refine s6 ?_ | refine s7 ?_ | refine s8 ?_ | refine s9 ?_)); simp (disch := omega) only [↓LD, LU, LS, LT, loadA_rf, ↓reduceIte, reduceCtorEq, Nat.reduceAdd, Nat.reduceMul, Nat.reduceSub, Nat.reduceLeDiff, Nat.reduceLT, Nat.reduceEqDiff, Int.reduceNeg, Int.reduceLT, Int.reduceLE, Int.reduceEq, Int.reduceToNat]) | ((with_reducible refine And.intro ?_ ?_); omega) | ((fail_if_success (with_reducible first | refine s1 ?_ | refine s2 ?_ | refine s3 ?_ | refine s4 ?_ | refine s5 ?_ | refine s6 ?_ | refine s7 ?_ | refine s8 ?_ | refine s9 ?_)); simp only [D.int, D.bool]))
    exact end1 rfl rfl (by kernel_rfl) .f (.inl ⟨List.eq_nil_of_length_eq_zero h0, rfl, rfl⟩)
  · rcases l with _ | ⟨x, l⟩
    · repeat' (first | (with_reducible first | refine r1 ?_ | refine rK fun K hK => ?_ | refine wpS_app fun K hK => ?_ | (refine hK _ ?_; clear hK K) | refine rL fun K hK => ?_) | ((with_reducible refine And.intro (Chk.mk' ?_) ?_); kernel_rfl) | ((with_reducible refine HS.cond1 ?_ ?_); rfl) | ((with_reducible refine HS.cond0 ?_ ?_); rfl) | ((with_reducible apply HS.condB) <;> first | rfl | (with_reducible intro h)) | (with_reducible first | refine r2 ?_ | refine r3 ?_ | refine r4 ?_ | refine r5 ?_ | refine r6 ?_ | refine r7 ?_ | refine r8 ?_ | refine r9 ?_ | refine rA ?_ | refine rB ?_ | refine rC ?_ | refine rD ?_) | ((with_reducible refine blockQ_miss ?_ ?_); rfl) | (with_reducible refine Two.mk' (fun h => ?_) (fun h => ?_) <;> try (exfalso; omega)) | ((with_reducible refine Bsel.mk' (fun h => ?_) (fun h => ?_)) <;> (try simp only [h])) | ((fail_if_success (with_reducible first | refine s1 ?_ | refine s2 ?_ | refine s3 ?_ | refine s4 ?_ | refine s5 ?_ | refine s6 ?_ | refine s7 ?_ | refine s8 ?_ | refine s9 ?_)); simp (disch := omega) only [↓LD, LU, LS, LT, loadA_rf, ↓reduceIte, reduceCtorEq, Nat.reduceAdd, Nat.reduceMul, Nat.reduceSub, Nat.reduceLeDiff, Nat.reduceLT, Nat.reduceEqDiff, Int.reduceNeg, Int.reduceLT, Int.reduceLE, Int.reduceEq, Int.reduceToNat]) | ((with_reducible refine And.intro ?_ ?_); omega) | ((fail_if_success (with_reducible first | refine s1 ?_ | refine s2 ?_ | refine s3 ?_ | refine s4 ?_ | refine s5 ?_ | refine s6 ?_ | refine s7 ?_ | refine s8 ?_ | refine s9 ?_)); simp only [D.int, D.bool]))
      exact endG rfl rfl (ef := ⟨.sl 0 0 0, [], [.data 3 []]⟩) (by kernel_rfl) (.inr ⟨rfl, rfl⟩)
    · simp only [List.length_cons] at hl
      repeat' (first | (with_reducible first | refine r1 ?_ | refine rK fun K hK => ?_ | refine wpS_app fun K hK => ?_ | (refine hK _ ?_; clear hK K) | refine rL fun K hK => ?_) | ((with_reducible refine And.intro (Chk.mk' ?_) ?_); kernel_rfl) | ((with_reducible refine HS.cond1 ?_ ?_); rfl) | ((with_reducible refine HS.cond0 ?_ ?_); rfl) | ((with_reducible apply HS.condB) <;> first | rfl | (with_reducible intro h)) | (with_reducible first | refine r2 ?_ | refine r3 ?_ | refine r4 ?_ | refine r5 ?_ | refine r6 ?_ | refine r7 ?_ | refine r8 ?_ | refine r9 ?_ | refine rA ?_ | refine rB ?_ | refine rC ?_ | refine rD ?_) | ((with_reducible refine blockQ_miss ?_ ?_); rfl) | (with_reducible refine Two.mk' (fun h => ?_) (fun h => ?_) <;> try (exfalso; omega)) | ((with_reducible refine Bsel.mk' (fun h => ?_) (fun h => ?_)) <;> (try simp only [h])) | ((fail_if_success (with_reducible first | refine s1 ?_ | refine s2 ?_ | refine s3 ?_ | refine s4 ?_ | refine s5 ?_ | refine s6 ?_ | refine s7 ?_ | refine s8 ?_ | refine s9 ?_)); simp (disch := omega) only [↓LD, LU, LS, LT, loadA_rf, ↓reduceIte, reduceCtorEq, Nat.reduceAdd, Nat.reduceMul, Nat.reduceSub, Nat.reduceLeDiff, Nat.reduceLT, Nat.reduceEqDiff, Int.reduceNeg, Int.reduceLT, Int.reduceLE, Int.reduceEq, Int.reduceToNat]) | ((with_reducible refine And.intro ?_ ?_); omega) | ((fail_if_success (with_reducible first | refine s1 ?_ | refine s2 ?_ | refine s3 ?_ | refine s4 ?_ | refine s5 ?_ | refine s6 ?_ | refine s7 ?_ | refine s8 ?_ | refine s9 ?_)); simp only [D.int, D.bool]))
      exact endG rfl rfl (ef := ⟨.sl 0 0 (l.length + 1), [], [.data 3 ((x :: l).map iF)]⟩) (by kernel_rfl) (.inr ⟨rfl, rfl⟩)
theorem c_int_Index (l : List Int) (x : Int) (hl : l.length < 1000000) : Con Try.prog 63 [.f (fI l), D.int x] [] fun r H' => r = D.int (idxF (fun y => decide (x = y)) 0 l) ∧ H' = [] := by
  refine Con.walk good fn_int_Index (by simp) ?_
  unfold s_int_Index
  simp only [argsE, List.length_cons, List.length_nil, Nat.reduceAdd]
  repeat' (first | (with_reducible first | refine r1 ?_ | refine rK fun K hK => ?_ | refine wpS_app fun K hK => ?_ | (refine hK _ ?_; clear hK K) | refine rL fun K hK => ?_) | ((with_reducible refine And.intro (Chk.mk' ?_) ?_); kernel_rfl) | ((with_reducible refine HS.cond1 ?_ ?_); rfl) | ((with_reducible refine HS.cond0 ?_ ?_); rfl) | ((with_reducible apply HS.condB) <;> first | rfl | (with_reducible intro h)) | (with_reducible first | refine r2 ?_ | refine r3 ?_ | refine r4 ?_ | refine r5 ?_ | refine r6 ?_ | refine r7 ?_ | refine r8 ?_ | refine r9 ?_ | refine rA ?_ | refine rB ?_ | refine rC ?_ | refine rD ?_) | ((with_reducible refine blockQ_miss ?_ ?_); rfl) | (with_reducible refine Two.mk' (fun h => ?_) (fun h => ?_) <;> try (exfalso; omega)) | ((with_reducible refine Bsel.mk' (fun h => ?_) (fun h => ?_)) <;> (try simp only [h])) | ((fail_if_success (with_reducible first | refine s1 ?_ | refine s2 ?_ | refine s3 ?_ | refine s4 ?_ | refine s5 ?_ | refine s6 ?_ | refine s7 ?_ | refine s8 ?_ | refine s9 ?_)); simp (disch := omega) only [↓LD, LU, LS, LT, loadA_rf, ↓reduceIte, reduceCtorEq, Nat.reduceAdd, Nat.reduceMul, Nat.reduceSub, Nat.reduceLeDiff, Nat.reduceLT, Nat.reduceEqDiff, Int.reduceNeg, Int.reduceLT, Int.reduceLE, Int.reduceEq, Int.reduceToNat, fI]) | ((with_reducible refine And.intro ?_ ?_); omega) | ((fail_if_success (with_reducible first | refine s1 ?_ | refine s2 ?_ | refine s3 ?_ | refine s4 ?_ | refine s5 ?_ | refine s6 ?_ | refine s7 ?_ | refine s8 ?_ | refine s9 ?_)); simp only [D.int, D.bool]))
  refine HS.loopP (fun k : Nat => [(0, .f (fI l)), (1, D.int x), (7, D.int l.length), (8, D.int k)]) (fun _ => [])
    (fun k => k ≤ l.length ∧ idxF (fun y => decide (x = y)) 0 l = idxF (fun y => decide (x = y)) k (l.drop k)) (fun k => l.length - k) 0 rfl (by kernel_rfl) ⟨Nat.zero_le _, rfl⟩ ?_
  rintro k ⟨hk, hr⟩
  repeat' (first | (with_reducible first | refine r1 ?_ | refine rK fun K hK => ?_ | refine wpS_app fun K hK => ?_ | (refine hK _ ?_; clear hK K) | refine rL fun K hK => ?_) | ((with_reducible refine And.intro (Chk.mk' ?_) ?_); kernel_rfl) | ((with_reducible refine HS.cond1 ?_ ?_); rfl) | ((with_reducible refine HS.cond0 ?_ ?_); rfl) | ((with_reducible apply HS.condB) <;> first | rfl | (with_reducible intro h)) | (with_reducible first | refine r2 ?_ | refine r3 ?_ | refine r4 ?_ | refine r5 ?_ | refine r6 ?_ | refine r7 ?_ | refine r8 ?_ | refine r9 ?_ | refine rA ?_ | refine rB ?_ | refine rC ?_ | refine rD ?_) | ((with_reducible refine blockQ_miss ?_ ?_); rfl) | (with_reducible refine Two.mk' (fun h => ?_) (fun h => ?_) <;> try (exfalso; omega)) | ((with_reducible refine Bsel.mk' (fun h => ?_) (fun h => ?_)) <;> (try simp only [h])) | ((fail_if_success (with_reducible first | refine s1 ?_ | refine s2 ?_ | refine s3 ?_ | refine s4 ?_ | refine s5 ?_ | refine s6 ?_ | refine s7 ?_ | refine s8 ?_ | refine s9 ?_)); simp (disch := omega) only [↓LD, LU, LS, LT, loadA_rf, ↓reduceIte, reduceCtorEq, Nat.reduceAdd, Nat.reduceMul, Nat.reduceSub, Nat.reduceLeDiff, Nat.reduceLT, Nat.reduceEqDiff, Int.reduceNeg, Int.reduceLT, Int.reduceLE, Int.reduceEq, Int.reduceToNat, fI]) | ((with_reducible refine And.intro ?_ ?_); omega) | ((fail_if_success (with_reducible first | refine s1 ?_ | refine s2 ?_ | refine s3 ?_ | refine s4 ?_ | refine s5 ?_ | refine s6 ?_ | refine s7 ?_ | refine s8 ?_ | refine s9 ?_)); simp only [D.int, D.bool]))
  · refine end1 rfl rfl (by kernel_rfl) .f ⟨congrArg D.int ?_, rfl⟩
    rw [hr, drop_gt (by omega), idxF, if_pos (by simpa using h)]
  · refine NextP.mk (k + 1) rfl (by kernel_rfl) ⟨by omega, ?_⟩ (by omega)
    rw [hr, drop_gt (by omega), idxF, if_neg (by simpa using h)]
  · refine end1 rfl rfl (by kernel_rfl) .f ⟨congrArg D.int ?_, rfl⟩
    rw [hr, List.drop_of_length_le (by omega)]; rfl
theorem c_int_Contains (l : List Int) (x : Int) (hl : l.length < 1000000) : Con Try.prog 46 [.f (fI l), D.int x] [] fun r H' => r = D.bool (decide (x ∈ l)) ∧ H' = [] := by
  refine Con.walk good fn_int_Contains (by simp) ?_
  unfold s_int_Contains
  simp only [argsE, List.length_cons, List.length_nil, Nat.reduceAdd]
  repeat' (first | (with_reducible first | refine r1 ?_ | refine rK fun K hK => ?_ | refine wpS_app fun K hK => ?_ | (refine hK _ ?_; clear hK K) | refine rL fun K hK => ?_) | ((with_reducible refine And.intro (Chk.mk' ?_) ?_); kernel_rfl) | ((with_reducible refine HS.cond1 ?_ ?_); rfl) | ((with_reducible refine HS.cond0 ?_ ?_); rfl) | ((with_reducible apply HS.condB) <;> first | rfl | (with_reducible intro h)) | (with_reducible first | refine r2 ?_ | refine r3 ?_ | refine r4 ?_ | refine r5 ?_ | refine r6 ?_ | refine r7 ?_ | refine r8 ?_ | refine r9 ?_ | refine rA ?_ | refine rB ?_ | refine rC ?_ | refine rD ?_) | ((with_reducible refine blockQ_miss ?_ ?_); rfl) | (with_reducible refine Two.mk' (fun h => ?_) (fun h => ?_) <;> try (exfalso; omega)) | ((with_reducible refine Bsel.mk' (fun h => ?_) (fun h => ?_)) <;> (try simp only [h])) | ((fail_if_success (with_reducible first | refine s1 ?_ | refine s2 ?_ | refine s3 ?_ | refine s4 ?_ | refine s5 ?_ | refine s6 ?_ | refine s7 ?_ | refine s8 ?_ | refine s9 ?_)); simp (disch := omega) only [↓LD, LU, LS, LT, loadA_rf, ↓reduceIte, reduceCtorEq, Nat.reduceAdd, Nat.reduceMul, Nat.reduceSub, Nat.reduceLeDiff, Nat.reduceLT, Nat.reduceEqDiff, Int.reduceNeg, Int.reduceLT, Int.reduceLE, Int.reduceEq, Int.reduceToNat]) | ((with_reducible refine And.intro ?_ ?_); omega) | ((fail_if_success (with_reducible first | refine s1 ?_ | refine s2 ?_ | refine s3 ?_ | refine s4 ?_ | refine s5 ?_ | refine s6 ?_ | refine s7 ?_ | refine s8 ?_ | refine s9 ?_)); simp only [D.int, D.bool]))
  refine callW_self (c_int_Index l x hl) ?_
  rintro _ _ ⟨rfl, rfl⟩
  repeat' (first | (with_reducible first | refine r1 ?_ | refine rK fun K hK => ?_ | refine wpS_app fun K hK => ?_ | (refine hK _ ?_; clear hK K) | refine rL fun K hK => ?_) | ((with_reducible refine And.intro (Chk.mk' ?_) ?_); kernel_rfl) | ((with_reducible refine HS.cond1 ?_ ?_); rfl) | ((with_reducible refine HS.cond0 ?_ ?_); rfl) | ((with_reducible apply HS.condB) <;> first | rfl | (with_reducible intro h)) | (with_reducible first | refine r2 ?_ | refine r3 ?_ | refine r4 ?_ | refine r5 ?_ | refine r6 ?_ | refine r7 ?_ | refine r8 ?_ | refine r9 ?_ | refine rA ?_ | refine rB ?_ | refine rC ?_ | refine rD ?_) | ((with_reducible refine blockQ_miss ?_ ?_); rfl) | (with_reducible refine Two.mk' (fun h => ?_) (fun h => ?_) <;> try (exfalso; omega)) | ((with_reducible refine Bsel.mk' (fun h => ?_) (fun h => ?_)) <;> (try simp only [h])) | ((fail_if_success (with_reducible first | refine s1 ?_ | refine s2 ?_ | refine s3 ?_ | refine s4 ?_ | refine s5 ?_ | refine s6 ?_ | refine s7 ?_ | refine s8 ?_ | refine s9 ?_)); simp (disch := omega) only [↓LD, LU, LS, LT, loadA_rf, ↓reduceIte, reduceCtorEq, Nat.reduceAdd, Nat.reduceMul, Nat.reduceSub, Nat.reduceLeDiff, Nat.reduceLT, Nat.reduceEqDiff, Int.reduceNeg, Int.reduceLT, Int.reduceLE, Int.reduceEq, Int.reduceToNat, D.int]) | ((with_reducible refine And.intro ?_ ?_); omega) | ((fail_if_success (with_reducible first | refine s1 ?_ | refine s2 ?_ | refine s3 ?_ | refine s4 ?_ | refine s5 ?_ | refine s6 ?_ | refine s7 ?_ | refine s8 ?_ | refine s9 ?_)); simp only [D.int, D.bool]))
  all_goals
    refine end1 rfl rfl (by kernel_rfl) .f ⟨congrArg D.bool ?_, rfl⟩
    have h1 := idxF_any (fun y => decide (x = y)) 0 l
    have h2 : l.any (fun y => decide (x = y)) = decide (x ∈ l) := by
      rw [Bool.eq_iff_iff]; simp
    rw [← h2, ← h1]; simp; omega
/-- The greatest. -/
def mxF : Int → List Int → Int
  | m, [] => m
  | m, x :: l => mxF (max m x) l
def maxL (l : List Int) : Int := mxF (gt l 0) (l.drop 1)
theorem c_int_Max (l : List Int) (h0 : 0 < l.length) (hl : l.length < 1000000) : Con Try.prog 44 [.f (fI l)] [] fun r H' => r = D.int (maxL l) ∧ H' = [] := by
  refine Con.walk good fn_int_Max (by simp) ?_
  unfold s_int_Max
  simp only [argsE, List.length_cons, List.length_nil, Nat.reduceAdd]
  repeat' (first | (with_reducible first | refine r1 ?_ | refine rK fun K hK => ?_ | refine wpS_app fun K hK => ?_ | (refine hK _ ?_; clear hK K) | refine rL fun K hK => ?_) | ((with_reducible refine And.intro (Chk.mk' ?_) ?_); kernel_rfl) | ((with_reducible refine HS.cond1 ?_ ?_); rfl) | ((with_reducible refine HS.cond0 ?_ ?_); rfl) | ((with_reducible apply HS.condB) <;> first | rfl | (with_reducible intro h)) | (with_reducible first | refine r2 ?_ | refine r3 ?_ | refine r4 ?_ | refine r5 ?_ | refine r6 ?_ | refine r7 ?_ | refine r8 ?_ | refine r9 ?_ | refine rA ?_ | refine rB ?_ | refine rC ?_ | refine rD ?_) | ((with_reducible refine blockQ_miss ?_ ?_); rfl) | (with_reducible refine Two.mk' (fun h => ?_) (fun h => ?_) <;> try (exfalso; omega)) | ((with_reducible refine Bsel.mk' (fun h => ?_) (fun h => ?_)) <;> (try simp only [h])) | ((fail_if_success (with_reducible first | refine s1 ?_ | refine s2 ?_ | refine s3 ?_ | refine s4 ?_ | refine s5 ?_ | refine s6 ?_ | refine s7 ?_ | refine s8 ?_ | refine s9 ?_)); simp (disch := omega) only [↓LD, LU, LS, LT, loadA_rf, ↓reduceIte, reduceCtorEq, Nat.reduceAdd, Nat.reduceMul, Nat.reduceSub, Nat.reduceLeDiff, Nat.reduceLT, Nat.reduceEqDiff, Int.reduceNeg, Int.reduceLT, Int.reduceLE, Int.reduceEq, Int.reduceToNat, fI]) | ((with_reducible refine And.intro ?_ ?_); omega) | ((fail_if_success (with_reducible first | refine s1 ?_ | refine s2 ?_ | refine s3 ?_ | refine s4 ?_ | refine s5 ?_ | refine s6 ?_ | refine s7 ?_ | refine s8 ?_ | refine s9 ?_)); simp only [D.int, D.bool]))
  refine HS.loopG [0, 3, 4] (fun x : Nat × Int => ⟨frm 25 [(0, .f (fI l)), (3, D.int x.2), (4, D.int x.1)], [], []⟩)
    (fun x => x.1 ≤ l.length ∧ maxL l = mxF x.2 (l.drop x.1)) (fun x => l.length - x.1) (1, gt l 0) (by kernel_rfl) ⟨h0, rfl⟩ ?_
  rintro ⟨k, m⟩ ⟨hk, hr⟩
  dsimp only at hk hr
  repeat' (first | (with_reducible first | refine r1 ?_ | refine rK fun K hK => ?_ | refine wpS_app fun K hK => ?_ | (refine hK _ ?_; clear hK K) | refine rL fun K hK => ?_) | ((with_reducible refine And.intro (Chk.mk' ?_) ?_); kernel_rfl) | ((with_reducible refine HS.cond1 ?_ ?_); rfl) | ((with_reducible refine HS.cond0 ?_ ?_); rfl) | ((with_reducible apply HS.condB) <;> first | rfl | (with_reducible intro h)) | (with_reducible first | refine r2 ?_ | refine r3 ?_ | refine r4 ?_ | refine r5 ?_ | refine r6 ?_ | refine r7 ?_ | refine r8 ?_ | refine r9 ?_ | refine rA ?_ | refine rB ?_ | refine rC ?_ | refine rD ?_) | ((with_reducible refine blockQ_miss ?_ ?_); rfl) | (with_reducible refine Two.mk' (fun h => ?_) (fun h => ?_) <;> try (exfalso; omega)) | ((with_reducible refine Bsel.mk' (fun h => ?_) (fun h => ?_)) <;> (try simp only [h])) | ((fail_if_success (with_reducible first | refine s1 ?_ | refine s2 ?_ | refine s3 ?_ | refine s4 ?_ | refine s5 ?_ | refine s6 ?_ | refine s7 ?_ | refine s8 ?_ | refine s9 ?_)); simp (disch := omega) only [↓LD, LU, LS, LT, loadA_rf, ↓reduceIte, reduceCtorEq, Nat.reduceAdd, Nat.reduceMul, Nat.reduceSub, Nat.reduceLeDiff, Nat.reduceLT, Nat.reduceEqDiff, Int.reduceNeg, Int.reduceLT, Int.reduceLE, Int.reduceEq, Int.reduceToNat, fI]) | ((with_reducible refine And.intro ?_ ?_); omega) | ((fail_if_success (with_reducible first | refine s1 ?_ | refine s2 ?_ | refine s3 ?_ | refine s4 ?_ | refine s5 ?_ | refine s6 ?_ | refine s7 ?_ | refine s8 ?_ | refine s9 ?_)); simp only [D.int, D.bool]))
  · refine Next.mk (k + 1, max m (gt l k)) (by kernel_rfl) ⟨by dsimp only; omega, ?_⟩ (by dsimp only; omega)
    dsimp only
    rw [hr, drop_gt (by omega), mxF]
  · refine end1 rfl rfl (by kernel_rfl) .f ⟨congrArg D.int ?_, rfl⟩
    rw [hr, List.drop_of_length_le (by omega)]; rfl
end Go.Proofs.Ytjbkckhpoicaeaa.Mir

/- What the order of a graph is, and what is ready: plain lists. -/
namespace Go.Proofs.Ytjbkckhpoicaeaa.Mir
open Go Go.RowKit
set_option linter.unusedVariables false
set_option linter.unusedSimpArgs false

/-- The order from a state on. -/
def sqF (ds : List Nd) : Nat → List Bool → List Int
  | 0, _ => []
  | n + 1, done => if nxt done 0 ds < 0 then [] else nxt done 0 ds :: sqF ds n (done.set (nxt done 0 ds).toNat true)
theorem ordF_seq (ds : List Nd) : ∀ (n : Nat) (done : List Bool) (out : List Int), ordF ds n done out = out ++ sqF ds n done
  | 0, done, out => by simp [ordF, sqF]
  | n + 1, done, out => by
    unfold ordF sqF
    split
    · simp
    · rw [ordF_seq ds n]; simp
theorem sqF_len (ds : List Nd) : ∀ (n : Nat) (done : List Bool), (sqF ds n done).length ≤ n
  | 0, done => by simp [sqF]
  | n + 1, done => by
    unfold sqF
    split
    · simp
    · have := sqF_len ds n (done.set (nxt done 0 ds).toNat true)
      simp; omega
theorem orderL_seq (ds : List Nd) : orderL ds = sqF ds ds.length (List.replicate ds.length false) := by rw [orderL, ordF_seq, List.nil_append]
/-- One step of an order that is whole. -/
theorem sqF_step {ds : List Nd} {n : Nat} {done : List Bool} (h : (sqF ds (n + 1) done).length = n + 1) :
    0 ≤ nxt done 0 ds ∧ sqF ds (n + 1) done = nxt done 0 ds :: sqF ds n (done.set (nxt done 0 ds).toNat true) ∧ (sqF ds n (done.set (nxt done 0 ds).toNat true)).length = n := by
  have e : sqF ds (n + 1) done = if nxt done 0 ds < 0 then [] else nxt done 0 ds :: sqF ds n (done.set (nxt done 0 ds).toNat true) := rfl
  by_cases hx : nxt done 0 ds < 0
  · rw [e, if_pos hx] at h; simp at h
  · rw [if_neg hx] at e
    rw [e] at h
    exact ⟨by omega, e, by simpa using h⟩
theorem nxt_in (done : List Bool) : ∀ (k : Nat) (ds : List Nd), 0 ≤ nxt done k ds → (k : Int) ≤ nxt done k ds ∧ nxt done k ds < k + ds.length ∧ gt done (nxt done k ds).toNat = false
  | k, [], h => by simp [nxt] at h
  | k, d :: ds, h => by
    unfold nxt at h ⊢
    split
    · rename_i hc
      simp at hc
      simp [hc.1]; omega
    · rename_i hc
      rw [if_neg hc] at h
      obtain ⟨h1, h2, h3⟩ := nxt_in done (k + 1) ds h
      refine ⟨by omega, ?_, h3⟩
      simp only [List.length_cons]; omega
/-- What is next is the first one that is ready. -/
theorem rdy_head (done : List Bool) : ∀ (k : Nat) (ds : List Nd), k + ds.length = done.length → 0 ≤ nxt done k ds → ∃ l, rdy done k ds = nxt done k ds :: l
  | k, [], _, h => by simp [nxt] at h
  | k, d :: ds, hl, h => by
    have hk : inB done k = gt done k := inB_gt (by simp at hl; omega)
    unfold nxt at h ⊢
    unfold rdy
    rw [hk]
    split
    · exact ⟨_, rfl⟩
    · rename_i hc
      rw [if_neg hc] at h
      exact rdy_head done (k + 1) ds (by simp at hl; omega) h
theorem rdy_done (done : List Bool) (hd : ∀ b ∈ done, b = true) : ∀ (k : Nat) (ds : List Nd), k + ds.length = done.length → rdy done k ds = []
  | k, [], _ => rfl
  | k, d :: ds, hl => by
    have hk : inB done k = gt done k := inB_gt (by simp at hl; omega)
    have hg : gt done k = true := hd _ (gt_mem (by simp at hl; omega))
    unfold rdy
    rw [hk, hg]
    exact rdy_done done hd (k + 1) ds (by simp at hl; omega)

/-- How many are open. -/
def opn (done : List Bool) : Nat := done.count false
theorem opn_set {done : List Bool} {k : Nat} (hk : k < done.length) (h : gt done k = false) : opn (done.set k true) + 1 = opn done := by
  unfold opn
  have h1 : done[k] = false := by rw [← gt_eq hk]; exact h
  have hpos : 0 < done.count false := List.count_pos_iff.2 (h1 ▸ List.getElem_mem hk)
  rw [List.count_set hk]
  simp [h1]; omega
theorem opn_none {done : List Bool} (h : opn done = 0) : ∀ b ∈ done, b = true := fun b hb => by
  cases b with
  | true => rfl
  | false => exact absurd (List.count_pos_iff.2 hb) (by unfold opn at h; omega)
theorem opn_all (n : Nat) : opn (List.replicate n false) = n := by simp [opn]

/-- Where the law stands behind i nodes. -/
structure AtD (ds : List Nd) (i : Nat) (done : List Bool) : Prop where
  le : i ≤ ds.length
  len : done.length = ds.length
  open' : opn done + i = ds.length
  rest : (orderL ds).drop i = sqF ds (ds.length - i) done
theorem AtD.start {ds : List Nd} : AtD ds 0 (List.replicate ds.length false) := ⟨Nat.zero_le _, List.length_replicate, by rw [opn_all]; rfl, by rw [orderL_seq]; rfl⟩
theorem order_len {ds : List Nd} (h : checkL ds = 0) : (orderL ds).length = ds.length := by
  have h1 := (check_in h).2.2.2
  have h2 := sqF_len ds ds.length (List.replicate ds.length false)
  rw [← orderL_seq] at h2
  omega
theorem AtD.step {ds : List Nd} (hc : checkL ds = 0) {i : Nat} {done : List Bool} (h : AtD ds i done) (hi : i < ds.length) :
    0 ≤ gt (orderL ds) i ∧ gt (orderL ds) i < ds.length ∧ gt done (gt (orderL ds) i).toNat = false ∧ (∃ l, readyL ds done = gt (orderL ds) i :: l) ∧ AtD ds (i + 1) (done.set (gt (orderL ds) i).toNat true) := by
  have hlen := order_len hc
  have hd := drop_gt (l := orderL ds) (k := i) (by omega)
  have hs := h.rest
  obtain ⟨m, hm⟩ : ∃ m, ds.length - i = m + 1 := ⟨ds.length - i - 1, by omega⟩
  have hl : (sqF ds (m + 1) done).length = m + 1 := by rw [← hm, ← hs, List.length_drop]; omega
  obtain ⟨h0, h1, h2⟩ := sqF_step hl
  rw [hm, h1, hd] at hs
  injection hs with hs1 hs2
  obtain ⟨n1, n2, n3⟩ := nxt_in done 0 ds h0
  obtain ⟨l, hl⟩ := rdy_head done 0 ds (by simpa using h.len.symm) h0
  rw [hs1]
  have hk : (nxt done 0 ds).toNat < done.length := by have := h.len; omega
  refine ⟨h0, by simpa using n2, n3, ⟨l, by rw [readyL, if_pos hc]; exact hl⟩, hi, by simp [h.len], ?_, ?_⟩
  · have := opn_set hk n3
    have := h.open'
    omega
  · rw [show ds.length - (i + 1) = m by omega, hs2]
theorem AtD.ends {ds : List Nd} {done : List Bool} (h : AtD ds ds.length done) : readyL ds done = [] := by
  unfold readyL
  split
  · exact rdy_done done (opn_none (by have := h.open'; omega)) 0 ds (by simpa using h.len.symm)
  · rfl
end Go.Proofs.Ytjbkckhpoicaeaa.Mir

/- The program's Depth. -/
namespace Go.Proofs.Ytjbkckhpoicaeaa.Mir
open Go Go.RowKit
set_option linter.unusedVariables false
set_option linter.unusedSimpArgs false
set_option maxHeartbeats 2000000

theorem sqF_in (ds : List Nd) : ∀ (n : Nat) (done : List Bool), done.length = ds.length → ∀ x ∈ sqF ds n done, 0 ≤ x ∧ x < ds.length
  | 0, _, _, x, hx => by simp [sqF] at hx
  | n + 1, done, hd, x, hx => by
    rw [sqF] at hx
    split at hx
    · simp at hx
    · rename_i h
      have h1 := nxt_in done 0 ds (by omega)
      rcases List.mem_cons.1 hx with rfl | hx
      · exact ⟨by omega, by omega⟩
      · exact sqF_in ds n _ (by rw [List.length_set]; exact hd) x hx
theorem order_in {ds : List Nd} : ∀ x ∈ orderL ds, 0 ≤ x ∧ x < ds.length := by
  rw [orderL_seq]
  exact sqF_in ds _ _ List.length_replicate
theorem needs_in {n : Int} : ∀ {l : List Int} {a : Int}, rise n a l = true → ∀ x ∈ l, a < x ∧ x < n
  | [], _, _, x, hx => by simp at hx
  | y :: l, a, h, x, hx => by
    simp only [rise, Bool.and_eq_true, decide_eq_true_eq] at h
    rcases List.mem_cons.1 hx with rfl | hx
    · exact ⟨by omega, by omega⟩
    · have := needs_in h.2 x hx; omega
theorem check_needs {ds : List Nd} (h : checkL ds = 0) {d : Nd} (hd : d ∈ ds) : rise ds.length (-1) d.ns = true := by
  have := List.all_eq_true.1 (check_in h).2.2.1 d hd
  simp only [rightB, Bool.and_eq_true] at this
  exact this.1
/-- The deepest of what a node needs, laid at its place. -/
def mxN (k : Nat) : List Int → List Int → List Int
  | deep, [] => deep
  | deep, n :: ns => mxN k (deep.set k (max (gt deep k) (gt deep n.toNat))) ns
def deepS (ds : List Nd) (deep : List Int) (k : Int) : List Int :=
  (mxN k.toNat deep (gt ds k.toNat).ns).set k.toNat (gt (mxN k.toNat deep (gt ds k.toNat).ns) k.toNat + 1)
def deepL (ds : List Nd) : List Int := (orderL ds).foldl (deepS ds) (List.replicate ds.length 0)
def depthL (ds : List Nd) : Int := if checkL ds = 0 then maxL (deepL ds) else 0
/-- So many numbers in their bounds. -/
def Dp (n : Nat) (t : Int) (deep : List Int) : Prop := deep.length = n ∧ ∀ y ∈ deep, 0 ≤ y ∧ y ≤ t
theorem Dp.at {n : Nat} {t : Int} {deep : List Int} (h : Dp n t deep) {k : Nat} (hk : k < n) : 0 ≤ gt deep k ∧ gt deep k ≤ t := h.2 _ (gt_mem (by rw [h.1]; exact hk))
theorem Dp.set {n : Nat} {t : Int} {deep : List Int} (h : Dp n t deep) {k : Nat} {z : Int} (hz : 0 ≤ z ∧ z ≤ t) : Dp n t (deep.set k z) := by
  refine ⟨by rw [List.length_set]; exact h.1, fun y hy => ?_⟩
  rcases List.mem_or_eq_of_mem_set hy with hy | rfl
  · exact h.2 y hy
  · exact hz
theorem Dp.mono {n : Nat} {t t' : Int} {deep : List Int} (h : Dp n t deep) (ht : t ≤ t') : Dp n t' deep := ⟨h.1, fun y hy => by have := h.2 y hy; omega⟩
set_option maxRecDepth 100000 in
theorem c_dag_Depth (ds : List Nd) (hf : Fit ds) : Con Try.prog 12 [.f (fG ds)] [] fun r H' => r = D.int (depthL ds) ∧ H' = [] := by
  refine Con.walk good fn_dag_Depth (by simp) ?_
  unfold s_dag_Depth
  simp only [argsE, List.length_cons, List.length_nil, Nat.reduceAdd]
  repeat' (first | (with_reducible first | refine r1 ?_ | refine rK fun K hK => ?_ | refine wpS_app fun K hK => ?_ | (refine hK _ ?_; clear hK K) | refine rL fun K hK => ?_) | ((with_reducible refine And.intro (Chk.mk' ?_) ?_); kernel_rfl) | ((with_reducible refine HS.cond1 ?_ ?_); rfl) | ((with_reducible refine HS.cond0 ?_ ?_); rfl) | ((with_reducible apply HS.condB) <;> first | rfl | (with_reducible intro h)) | (with_reducible first | refine r2 ?_ | refine r3 ?_ | refine r4 ?_ | refine r5 ?_ | refine r6 ?_ | refine r7 ?_ | refine r8 ?_ | refine r9 ?_ | refine rA ?_ | refine rB ?_ | refine rC ?_ | refine rD ?_) | ((with_reducible refine blockQ_miss ?_ ?_); rfl) | (with_reducible refine Two.mk' (fun h => ?_) (fun h => ?_) <;> try (exfalso; omega)) | ((with_reducible refine Bsel.mk' (fun h => ?_) (fun h => ?_)) <;> (try simp only [h])) | ((fail_if_success (with_reducible first | refine s1 ?_ | refine s2 ?_ | refine s3 ?_ | refine s4 ?_ | refine s5 ?_ | refine s6 ?_ | refine s7 ?_ | refine s8 ?_ | refine s9 ?_)); simp (disch := omega) only [↓LD, LU, LS, LT, loadA_rf, ↓reduceIte, reduceCtorEq, Nat.reduceAdd, Nat.reduceMul, Nat.reduceSub, Nat.reduceLeDiff, Nat.reduceLT, Nat.reduceEqDiff, Int.reduceNeg, Int.reduceLT, Int.reduceLE, Int.reduceEq, Int.reduceToNat]) | ((with_reducible refine And.intro ?_ ?_); omega) | ((fail_if_success (with_reducible first | refine s1 ?_ | refine s2 ?_ | refine s3 ?_ | refine s4 ?_ | refine s5 ?_ | refine s6 ?_ | refine s7 ?_ | refine s8 ?_ | refine s9 ?_)); simp only [D.int, D.bool]))
  refine callW_self (c_dag_Check ds hf) ?_
  rintro _ _ ⟨rfl, rfl⟩
  by_cases hc : checkL ds = 0
  · obtain ⟨hn1, hn8, _, hol⟩ := check_in hc
    have hdl : depthL ds = maxL (deepL ds) := if_pos hc
    have hpos := check_pos hc
    have hlen := order_len hc
    have hin := order_in (ds := ds)
    rw [hc]
    repeat' (first | (with_reducible first | refine r1 ?_ | refine rK fun K hK => ?_ | refine wpS_app fun K hK => ?_ | (refine hK _ ?_; clear hK K) | refine rL fun K hK => ?_) | ((with_reducible refine And.intro (Chk.mk' ?_) ?_); kernel_rfl) | ((with_reducible refine HS.cond1 ?_ ?_); rfl) | ((with_reducible refine HS.cond0 ?_ ?_); rfl) | ((with_reducible apply HS.condB) <;> first | rfl | (with_reducible intro h)) | (with_reducible first | refine r2 ?_ | refine r3 ?_ | refine r4 ?_ | refine r5 ?_ | refine r6 ?_ | refine r7 ?_ | refine r8 ?_ | refine r9 ?_ | refine rA ?_ | refine rB ?_ | refine rC ?_ | refine rD ?_) | ((with_reducible refine blockQ_miss ?_ ?_); rfl) | (with_reducible refine Two.mk' (fun h => ?_) (fun h => ?_) <;> try (exfalso; omega)) | ((with_reducible refine Bsel.mk' (fun h => ?_) (fun h => ?_)) <;> (try simp only [h])) | ((fail_if_success (with_reducible first | refine s1 ?_ | refine s2 ?_ | refine s3 ?_ | refine s4 ?_ | refine s5 ?_ | refine s6 ?_ | refine s7 ?_ | refine s8 ?_ | refine s9 ?_)); simp (disch := omega) only [↓LD, LU, LS, LT, loadA_rf, ↓reduceIte, reduceCtorEq, Nat.reduceAdd, Nat.reduceMul, Nat.reduceSub, Nat.reduceLeDiff, Nat.reduceLT, Nat.reduceEqDiff, Int.reduceNeg, Int.reduceLT, Int.reduceLE, Int.reduceEq, Int.reduceToNat, fG, List.append_nil]) | ((with_reducible refine And.intro ?_ ?_); omega) | ((fail_if_success (with_reducible first | refine s1 ?_ | refine s2 ?_ | refine s3 ?_ | refine s4 ?_ | refine s5 ?_ | refine s6 ?_ | refine s7 ?_ | refine s8 ?_ | refine s9 ?_)); simp only [D.int, D.bool]))
    rw [mk_ints]
    refine callW_emb (c_dag_order ds hf hpos) [] (by kernel_rfl) rfl rfl ?_
    rintro _ _ ⟨rfl, rfl⟩
    repeat' (first | (with_reducible first | refine r1 ?_ | refine rK fun K hK => ?_ | refine wpS_app fun K hK => ?_ | (refine hK _ ?_; clear hK K) | refine rL fun K hK => ?_) | ((with_reducible refine And.intro (Chk.mk' ?_) ?_); kernel_rfl) | ((with_reducible refine HS.cond1 ?_ ?_); rfl) | ((with_reducible refine HS.cond0 ?_ ?_); rfl) | ((with_reducible apply HS.condB) <;> first | rfl | (with_reducible intro h)) | (with_reducible first | refine r2 ?_ | refine r3 ?_ | refine r4 ?_ | refine r5 ?_ | refine r6 ?_ | refine r7 ?_ | refine r8 ?_ | refine r9 ?_ | refine rA ?_ | refine rB ?_ | refine rC ?_ | refine rD ?_) | ((with_reducible refine blockQ_miss ?_ ?_); rfl) | (with_reducible refine Two.mk' (fun h => ?_) (fun h => ?_) <;> try (exfalso; omega)) | ((with_reducible refine Bsel.mk' (fun h => ?_) (fun h => ?_)) <;> (try simp only [h])) | ((fail_if_success (with_reducible first | refine s1 ?_ | refine s2 ?_ | refine s3 ?_ | refine s4 ?_ | refine s5 ?_ | refine s6 ?_ | refine s7 ?_ | refine s8 ?_ | refine s9 ?_)); simp (disch := omega) only [↓LD, LU, LS, LT, loadA_rf, ↓reduceIte, reduceCtorEq, Nat.reduceAdd, Nat.reduceMul, Nat.reduceSub, Nat.reduceLeDiff, Nat.reduceLT, Nat.reduceEqDiff, Int.reduceNeg, Int.reduceLT, Int.reduceLE, Int.reduceEq, Int.reduceToNat, fI, List.append_nil]) | ((with_reducible refine And.intro ?_ ?_); omega) | ((fail_if_success (with_reducible first | refine s1 ?_ | refine s2 ?_ | refine s3 ?_ | refine s4 ?_ | refine s5 ?_ | refine s6 ?_ | refine s7 ?_ | refine s8 ?_ | refine s9 ?_)); simp only [D.int, D.bool]))
    refine HS.loopG [0, 3, 15, 16, 17] (fun x : Nat × List Int => ⟨frm 53 [(0, .f (fG ds)), (3, .sl 0 0 ds.length), (15, .f (fI (orderL ds))), (16, D.int (orderL ds).length), (17, D.int x.1)], [.data 3 (x.2.map iF)], []⟩)
      (fun x => x.1 ≤ (orderL ds).length ∧ Dp ds.length x.1 x.2 ∧ deepL ds = ((orderL ds).drop x.1).foldl (deepS ds) x.2) (fun x => (orderL ds).length - x.1) (0, List.replicate ds.length 0) (by kernel_rfl)
      ⟨Nat.zero_le _, ⟨List.length_replicate, fun y hy => by rw [List.eq_of_mem_replicate hy]; exact ⟨by omega, by simp⟩⟩, rfl⟩ ?_
    rintro ⟨i, deep⟩ ⟨hi, hd, hr⟩
    dsimp only at hi hd hr
    have hk := fun h : i < (orderL ds).length => hin _ (gt_mem h)
    have hdl' := hd.1
    repeat' (first | (with_reducible first | refine r1 ?_ | refine rK fun K hK => ?_ | refine wpS_app fun K hK => ?_ | (refine hK _ ?_; clear hK K) | refine rL fun K hK => ?_) | ((with_reducible refine And.intro (Chk.mk' ?_) ?_); kernel_rfl) | ((with_reducible refine HS.cond1 ?_ ?_); rfl) | ((with_reducible refine HS.cond0 ?_ ?_); rfl) | ((with_reducible apply HS.condB) <;> first | rfl | (with_reducible intro h)) | (with_reducible first | refine r2 ?_ | refine r3 ?_ | refine r4 ?_ | refine r5 ?_ | refine r6 ?_ | refine r7 ?_ | refine r8 ?_ | refine r9 ?_ | refine rA ?_ | refine rB ?_ | refine rC ?_ | refine rD ?_) | ((with_reducible refine blockQ_miss ?_ ?_); rfl) | (with_reducible refine Two.mk' (fun h => ?_) (fun h => ?_) <;> try (exfalso; omega)) | ((with_reducible refine Bsel.mk' (fun h => ?_) (fun h => ?_)) <;> (try simp only [h])) | ((fail_if_success (with_reducible first | refine s1 ?_ | refine s2 ?_ | refine s3 ?_ | refine s4 ?_ | refine s5 ?_ | refine s6 ?_ | refine s7 ?_ | refine s8 ?_ | refine s9 ?_)); simp (disch := omega) only [↓LD, LU, LS, LT, loadA_rf, ↓reduceIte, reduceCtorEq, Nat.reduceAdd, Nat.reduceMul, Nat.reduceSub, Nat.reduceLeDiff, Nat.reduceLT, Nat.reduceEqDiff, Int.reduceNeg, Int.reduceLT, Int.reduceLE, Int.reduceEq, Int.reduceToNat, fG, fI, nd_load, nd_cs, nd_at0, nd_at1, nd_at2, -loadA_rf]) | ((with_reducible refine And.intro ?_ ?_); omega) | ((fail_if_success (with_reducible first | refine s1 ?_ | refine s2 ?_ | refine s3 ?_ | refine s4 ?_ | refine s5 ?_ | refine s6 ?_ | refine s7 ?_ | refine s8 ?_ | refine s9 ?_)); simp only [D.int, D.bool]))
    · have hk := hk (by omega)
      obtain ⟨k, hkn⟩ := Int.eq_ofNat_of_zero_le hk.1
      have hkt : (gt (orderL ds) i).toNat = k := by omega
      have hkl : k < ds.length := by omega
      rw [hkt, hkn]
      have hns := needs_in (check_needs hc (gt_mem hkl))
      have hnl := hf.2 _ (gt_mem hkl)
      have hst : ((orderL ds).drop i).foldl (deepS ds) deep = ((orderL ds).drop (i + 1)).foldl (deepS ds) ((mxN k deep (gt ds k).ns).set k (gt (mxN k deep (gt ds k).ns) k + 1)) := by
        rw [drop_gt (by omega), List.foldl_cons, deepS, hkt]
      generalize hN : (gt ds k).ns = ns at hns hst hnl
      refine HS.loopG [0, 3, 5, 15, 16, 17, 25, 26, 27] (fun x : Nat × List Int => ⟨frm 53 [(0, .f (fG ds)), (3, .sl 0 0 ds.length), (5, D.int k), (15, .f (fI (orderL ds))), (16, D.int (orderL ds).length), (17, D.int i), (25, .f (fI ns)), (26, D.int ns.length), (27, D.int x.1)], [.data 3 (x.2.map iF)], []⟩)
        (fun x => x.1 ≤ ns.length ∧ Dp ds.length i x.2 ∧ mxN k deep ns = mxN k x.2 (ns.drop x.1)) (fun x => ns.length - x.1) (0, deep) (by kernel_rfl) ⟨Nat.zero_le _, hd, rfl⟩ ?_
      rintro ⟨j, e⟩ ⟨hj, he, hm⟩
      dsimp only at hj he hm
      have hel := he.1
      have hnj := fun h : j < ns.length => hns _ (gt_mem h)
      have hek := he.at hkl
      repeat' (first | (with_reducible first | refine r1 ?_ | refine rK fun K hK => ?_ | refine wpS_app fun K hK => ?_ | (refine hK _ ?_; clear hK K) | refine rL fun K hK => ?_) | (with_reducible first | refine wpDr_aK fun N hN => ?_ | refine wpDr_nK fun N hN => ?_ | refine wpDr_gK fun N M hN hM => ?_ | (refine hN _ _ _ _ ?_; clear hN N; (try clear hM M)) | (refine hM ?_; clear hM M; (try clear hN N))) | ((with_reducible refine And.intro (Chk.mk' ?_) ?_); kernel_rfl) | ((with_reducible refine HS.cond1 ?_ ?_); rfl) | ((with_reducible refine HS.cond0 ?_ ?_); rfl) | ((with_reducible apply HS.condB) <;> first | rfl | (with_reducible intro h)) | (with_reducible first | refine r2 ?_ | refine r3 ?_ | refine r4 ?_ | refine r5 ?_ | refine r6 ?_ | refine r7 ?_ | refine r8 ?_ | refine r9 ?_ | refine rA ?_ | refine rB ?_ | refine rC ?_ | refine rD ?_) | ((with_reducible refine blockQ_miss ?_ ?_); rfl) | (with_reducible refine Two.mk' (fun h => ?_) (fun h => ?_) <;> try (exfalso; omega)) | ((with_reducible refine Bsel.mk' (fun h => ?_) (fun h => ?_)) <;> (try simp only [h])) | ((fail_if_success (with_reducible first | refine s1 ?_ | refine s2 ?_ | refine s3 ?_ | refine s4 ?_ | refine s5 ?_ | refine s6 ?_ | refine s7 ?_ | refine s8 ?_ | refine s9 ?_)); simp (disch := omega) only [↓LD, LU, LS, LT, loadA_rf, ↓reduceIte, reduceCtorEq, Nat.reduceAdd, Nat.reduceMul, Nat.reduceSub, Nat.reduceLeDiff, Nat.reduceLT, Nat.reduceEqDiff, Int.reduceNeg, Int.reduceLT, Int.reduceLE, Int.reduceEq, Int.reduceToNat, fI, set_map_i]) | ((with_reducible refine And.intro ?_ ?_); omega) | ((fail_if_success (with_reducible first | refine s1 ?_ | refine s2 ?_ | refine s3 ?_ | refine s4 ?_ | refine s5 ?_ | refine s6 ?_ | refine s7 ?_ | refine s8 ?_ | refine s9 ?_)); simp only [D.int, D.bool]))
      · have hnj := hnj (by omega)
        have hen := he.at (k := (gt ns j).toNat) (by omega)
        refine Next.mk (j + 1, e.set k (max (gt e k) (gt e (gt ns j).toNat))) (by kernel_rfl) ⟨by dsimp only; omega, he.set (by omega), ?_⟩ (by dsimp only; omega)
        dsimp only
        rw [hm, drop_gt (by omega), mxN]
      · refine Next.mk (i + 1, e.set k (gt e k + 1)) (by kernel_rfl) ⟨by dsimp only; omega, (he.mono (by omega)).set (by omega), ?_⟩ (by dsimp only; omega)
        dsimp only
        rw [hr, hst, hm, List.drop_of_length_le (by omega), mxN]
    · refine callW_peek (c_int_Max deep (by omega) (by omega)) (.cons (hdl' ▸ .sl rfl (fun e => by simp; omega)) .nil) ?_ ?_
      · rintro _ _ ⟨rfl, rfl⟩
        exact ⟨.f .v, by simp⟩
      rintro _ _ ⟨rfl, rfl⟩
      repeat' (first | (with_reducible first | refine r1 ?_ | refine rK fun K hK => ?_ | refine wpS_app fun K hK => ?_ | (refine hK _ ?_; clear hK K) | refine rL fun K hK => ?_) | ((with_reducible refine And.intro (Chk.mk' ?_) ?_); kernel_rfl) | ((with_reducible refine HS.cond1 ?_ ?_); rfl) | ((with_reducible refine HS.cond0 ?_ ?_); rfl) | ((with_reducible apply HS.condB) <;> first | rfl | (with_reducible intro h)) | (with_reducible first | refine r2 ?_ | refine r3 ?_ | refine r4 ?_ | refine r5 ?_ | refine r6 ?_ | refine r7 ?_ | refine r8 ?_ | refine r9 ?_ | refine rA ?_ | refine rB ?_ | refine rC ?_ | refine rD ?_) | ((with_reducible refine blockQ_miss ?_ ?_); rfl) | (with_reducible refine Two.mk' (fun h => ?_) (fun h => ?_) <;> try (exfalso; omega)) | ((with_reducible refine Bsel.mk' (fun h => ?_) (fun h => ?_)) <;> (try simp only [h])) | ((fail_if_success (with_reducible first | refine s1 ?_ | refine s2 ?_ | refine s3 ?_ | refine s4 ?_ | refine s5 ?_ | refine s6 ?_ | refine s7 ?_ | refine s8 ?_ | refine s9 ?_)); simp (disch := omega) only [↓LD, LU, LS, LT, loadA_rf, ↓reduceIte, reduceCtorEq, Nat.reduceAdd, Nat.reduceMul, Nat.reduceSub, Nat.reduceLeDiff, Nat.reduceLT, Nat.reduceEqDiff, Int.reduceNeg, Int.reduceLT, Int.reduceLE, Int.reduceEq, Int.reduceToNat, List.append_nil]) | ((with_reducible refine And.intro ?_ ?_); omega) | ((fail_if_success (with_reducible first | refine s1 ?_ | refine s2 ?_ | refine s3 ?_ | refine s4 ?_ | refine s5 ?_ | refine s6 ?_ | refine s7 ?_ | refine s8 ?_ | refine s9 ?_)); simp only [D.int, D.bool]))
      refine end1 rfl rfl (by kernel_rfl) .f ⟨congrArg D.int ?_, rfl⟩
      rw [hdl, hr, List.drop_of_length_le (by omega)]; rfl
  · repeat' (first | (with_reducible first | refine r1 ?_ | refine rK fun K hK => ?_ | refine wpS_app fun K hK => ?_ | (refine hK _ ?_; clear hK K) | refine rL fun K hK => ?_) | ((with_reducible refine And.intro (Chk.mk' ?_) ?_); kernel_rfl) | ((with_reducible refine HS.cond1 ?_ ?_); rfl) | ((with_reducible refine HS.cond0 ?_ ?_); rfl) | ((with_reducible apply HS.condB) <;> first | rfl | (with_reducible intro h)) | (with_reducible first | refine r2 ?_ | refine r3 ?_ | refine r4 ?_ | refine r5 ?_ | refine r6 ?_ | refine r7 ?_ | refine r8 ?_ | refine r9 ?_ | refine rA ?_ | refine rB ?_ | refine rC ?_ | refine rD ?_) | ((with_reducible refine blockQ_miss ?_ ?_); rfl) | (with_reducible refine Two.mk' (fun h => ?_) (fun h => ?_) <;> try (exfalso; omega)) | ((with_reducible refine Bsel.mk' (fun h => ?_) (fun h => ?_)) <;> (try simp only [h])) | ((fail_if_success (with_reducible first | refine s1 ?_ | refine s2 ?_ | refine s3 ?_ | refine s4 ?_ | refine s5 ?_ | refine s6 ?_ | refine s7 ?_ | refine s8 ?_ | refine s9 ?_)); simp (disch := omega) only [↓LD, LU, LS, LT, loadA_rf, ↓reduceIte, reduceCtorEq, Nat.reduceAdd, Nat.reduceMul, Nat.reduceSub, Nat.reduceLeDiff, Nat.reduceLT, Nat.reduceEqDiff, Int.reduceNeg, Int.reduceLT, Int.reduceLE, Int.reduceEq, Int.reduceToNat, List.append_nil]) | ((with_reducible refine And.intro ?_ ?_); omega) | ((fail_if_success (with_reducible first | refine s1 ?_ | refine s2 ?_ | refine s3 ?_ | refine s4 ?_ | refine s5 ?_ | refine s6 ?_ | refine s7 ?_ | refine s8 ?_ | refine s9 ?_)); simp only [D.int, D.bool]))
    refine end1 rfl rfl (by kernel_rfl) .f ⟨congrArg D.int ?_, rfl⟩
    rw [depthL, if_neg hc]
end Go.Proofs.Ytjbkckhpoicaeaa.Mir

/- slices.Sorted(maps.Keys(m)) told by its contract, for keys of any kind: what it leaves on the machine's rows. -/
namespace Go.Proofs.Ytjbkckhpoicaeaa.Mir
open Go Go.RowKit Go.Shelf Go.Maps Go.Sort

section
variable {P : Program} {w w' : World} {φ : Nat → Nat × Nat} {X : Nat → Prop} {H : List Row}

theorem keep_below (h : Below w.heap.size w w') : Keep (fun _ => False) w w' :=
  ⟨h.size, fun b hb _ => h.block b hb, fun b cs _ fr hc => ⟨cs, fr, (h.block b (block_lt hc)).trans hc, rfl⟩, h.os, h.tape, h.output⟩

theorem leaves_new (h : HR P w φ X H) (hk : Keep (fun _ => False) w w') (b : Nat) (hb : w.heap.size ≤ b) (row : Row) (d : D) (v : Value)
    (hrow : ∀ (A : Nat → Prop), (∀ c, c < w.heap.size → A c → Av X φ H c) → RowOk P w' (ext1 φ H.length (b, 0)) A (H.length + 1) H.length row ∧ R P w' (ext1 φ H.length (b, 0)) A (H.length + 1) d v) :
    Leaves P w φ X H ⟨d, [], [row]⟩ v w' := by
  obtain ⟨r1, r2, r3⟩ := h.more hk b 0 row hb (fun hav => (hrow _ hav).1)
  refine ⟨ext1 φ H.length (b, 0), fun r hr => ext1_old hr, by simpa [Eff.heap, applyUpd] using r1, ?_, hk.mono (fun _ _ h => h.elim), by simpa [Eff.heap, applyUpd] using r2⟩
  have := (hrow _ r3).2
  simpa [Eff.heap, applyUpd] using this

theorem leaves_same (h : HR P w φ X H) (hk : Keep (fun _ => False) w w') {d : D} {v : Value} (hd : ∀ A, R P w' φ A H.length d v) : Leaves P w φ X H ⟨d, [], []⟩ v w' := by
  obtain ⟨r1, r2, r3⟩ := h.step (H' := H) (φ' := φ) (fun _ => False) hk (fun _ h => h.elim) (Nat.le_refl _) (fun _ _ => rfl) (fun r x hx hl => .inr (live_of hx hl)) (fun r x hx => .inl ⟨hx, fun _ h => h⟩) h.apart
  exact ⟨φ, fun _ _ => rfl, by simpa [Eff.heap, applyUpd] using r1, by simpa [Eff.heap, applyUpd] using hd _, hk.mono (fun _ _ h => h.elim), by simpa [Eff.heap, applyUpd] using r2⟩

/-- What is handed back: nil, or a new row. -/
def resOf (T : TypeId) (n : Nat) (xs : List Value) : Eff :=
  if xs.isEmpty then ⟨.f (.v (.slice none 0 0)), [], []⟩ else ⟨.sl n 0 xs.length, [], [.data T (xs.map F.v)]⟩

theorem sorted_leaves (hH : HR P w φ X H) (hb : Below w.heap.size w w') {T : TypeId} {i : TypeInfo} (hT : P.info? T = some i) (hi : i.size = 1) {xs : List Value} (h1 : ∀ x ∈ xs, x.oneCell' = true) {v : Value}
    (hrow : w'.ownsRow w.heap.size T 1 v xs.length xs) (hnil : v = .slice none 0 0 ↔ xs = []) : Leaves P w φ X H (resOf T H.length xs) v w' := by
  unfold resOf
  by_cases hx : xs = []
  · subst hx
    obtain rfl := hnil.2 rfl
    exact leaves_same hH (keep_below hb) fun A => .f (.v rfl)
  · rw [if_neg (by simpa using hx)]
    obtain ⟨_, hr⟩ := hrow
    rcases hr with ⟨hv, _⟩ | ⟨g, cap, cur, rfl, hbase, hg, hn, _, hsz, htake⟩
    · exact absurd (hnil.1 hv) hx
    · refine leaves_new hH (keep_below hb) g hbase _ _ _ fun A hA => ⟨?_, ?_⟩
      · refine ⟨[], xs, cur.toList.drop xs.length, ?_, by rw [ext1_new]; rfl, by simp, fun j x u hj hu => ?_⟩
        · rw [ext1_new]
          refine hg.trans ?_
          rw [List.nil_append]
          have : cur = (xs ++ cur.toList.drop xs.length).toArray := by
            rw [← htake, Nat.mul_one]
            apply Array.toList_inj.1
            have h2 : (cur.toList.take xs.length).length = xs.length := by simp; omega
            simp only [h2, List.take_append_drop]
          rw [← this]
        · rw [List.getElem?_map, hu] at hj
          cases hj
          exact .v (h1 _ (List.mem_of_getElem? hu))
      · have := R.sl (P := P) (w := w') (φ := ext1 φ H.length (g, 0)) (A := A) (N := H.length + 1) (r := H.length) (off := 0) (n := xs.length) (cap := cap) (cs := cur) (T := T) (fr := (0, 0)) (i := i) (by omega) hn (by rw [ext1_new]; exact hg) hT (by rw [ext1_new, hi]; simp; omega)
        rw [ext1_new] at this
        exact this
end

/-- A list in order, laid by insertion: for the kernel. -/
def insK {α : Type} (le : α → α → Bool) (x : α) : List α → List α
  | [] => [x]
  | y :: ys => match le x y with
    | true => x :: y :: ys
    | false => y :: insK le x ys
def isort {α : Type} (le : α → α → Bool) : List α → List α
  | [] => []
  | x :: xs => insK le x (isort le xs)

theorem insK_perm {α : Type} (le : α → α → Bool) (x : α) : ∀ ys, (insK le x ys).Perm (x :: ys)
  | [] => .refl _
  | y :: ys => by
    unfold insK
    split
    · exact .refl _
    · exact ((insK_perm le x ys).cons y).trans (.swap x y ys)
theorem isort_perm {α : Type} (le : α → α → Bool) : ∀ xs, (isort le xs).Perm xs
  | [] => .refl _
  | x :: xs => (insK_perm le x _).trans ((isort_perm le xs).cons x)
theorem insK_pairwise {α : Type} {le : α → α → Bool} (tr : ∀ a b c, le a b = true → le b c = true → le a c = true) (tot : ∀ a b, (le a b || le b a) = true) (x : α) : ∀ ys, ys.Pairwise (fun a b => le a b = true) → (insK le x ys).Pairwise (fun a b => le a b = true)
  | [], _ => by simp [insK]
  | y :: ys, h => by
    rw [List.pairwise_cons] at h
    unfold insK
    split
    · rename_i hxy
      refine List.pairwise_cons.2 ⟨fun z hz => ?_, List.pairwise_cons.2 h⟩
      rcases List.mem_cons.1 hz with rfl | hz
      · exact hxy
      · exact tr _ _ _ hxy (h.1 z hz)
    · rename_i hxy
      have hyx : le y x = true := by
        have := tot x y
        rw [hxy] at this; simpa using this
      refine List.pairwise_cons.2 ⟨fun z hz => ?_, insK_pairwise tr tot x ys h.2⟩
      rcases List.mem_cons.1 ((insK_perm le x ys).subset hz) with rfl | hz
      · exact hyx
      · exact h.1 z hz
theorem isort_pairwise {α : Type} {le : α → α → Bool} (tr : ∀ a b c, le a b = true → le b c = true → le a c = true) (tot : ∀ a b, (le a b || le b a) = true) : ∀ xs, (isort le xs).Pairwise (fun a b => le a b = true)
  | [] => .nil
  | x :: xs => insK_pairwise tr tot x _ (isort_pairwise tr tot xs)
theorem isort_eq {α : Type} {le : α → α → Bool} (tr : ∀ a b c, le a b = true → le b c = true → le a c = true) (tot : ∀ a b, (le a b || le b a) = true) (anti : ∀ a b, le a b = true → le b a = true → a = b) {xs ys : List α} (h : ys.Perm xs) : ys.mergeSort le = isort le xs :=
  List.Perm.eq_of_pairwise (le := fun a b => le a b = true) (fun a b _ _ h1 h2 => anti a b h1 h2) (List.pairwise_mergeSort tr tot ys) (isort_pairwise tr tot xs) (((List.mergeSort_perm ys le).trans h).trans (isort_perm le xs).symm)

/-- The keys, where all are of the kind. -/
def keysV {α : Type} (ofK : Value → Option α) : List Value → Option (List α)
  | [] => some []
  | v :: vs => match ofK v with
    | some x => match keysV ofK vs with
      | some xs => some (x :: xs)
      | none => none
    | none => none

theorem keys_read {α : Type} {P : Program} {k : TypeId} (ofK : Value → Option α) (lit : α → Lit) (back : Lit → α) (hb : ∀ x, back (lit x) = x) (hk : ∀ v x, ofK v = some x → keyOf P k v = some (lit x)) :
    ∀ (l : List MapEntry) (ks : List α), keysV ofK (l.map (·.key)) = some ks → (∀ x ∈ l, ∃ y, WideElems.rd (H := Unit) P k (fun _ => some (.nil, [])) x = some y) ∧ (l.map (WideElems.rg (H := Unit) P k (fun _ => some (.nil, [])))).map (fun p => back p.1) = ks
  | [], ks, h => by cases h; exact ⟨fun x hx => (by cases hx), rfl⟩
  | e :: l, ks, h => by
    simp only [List.map_cons, keysV] at h
    split at h
    · rename_i x hx
      split at h
      · rename_i xs hxs
        cases h
        obtain ⟨h1, h2⟩ := keys_read ofK lit back hb hk l xs hxs
        have hrd : WideElems.rd (H := Unit) P k (fun _ => some (.nil, [])) e = some (lit x, .nil) := by simp [WideElems.rd, hk _ _ hx]
        refine ⟨fun y hy => ?_, ?_⟩
        · rcases List.mem_cons.1 hy with rfl | hy
          · exact ⟨_, hrd⟩
          · exact h1 y hy
        · simp only [List.map_cons, h2, WideElems.rg, hrd, Option.getD_some, hb]
      · cases h
    · cases h

theorem owns_keys {α : Type} {P : Program} {k : TypeId} (ofK : Value → Option α) (lit : α → Lit) (back : Lit → α) (hb : ∀ x, back (lit x) = x) (hk : ∀ v x, ofK v = some x → keyOf P k v = some (lit x))
    {w : World} {q : Nat} {en : Array MapEntry} {clock : Nat} (hq : w.heap[q]? = some (.map en clock)) (hst : MapKept.Stamped en clock) {ks : List α} (hks : keysV ofK (en.toList.map (·.key)) = some ks) (hsz : en.size ≤ maxLen) :
    ∃ es : List (Lit × DataW Unit), w.ownsMap P k (fun _ => some (.nil, [])) q en.size (.map es) ∧ (es.map fun p => back p.1).Perm ks ∧ es.length = en.size := by
  obtain ⟨h1, h2⟩ := keys_read (P := P) (k := k) ofK lit back hb hk _ _ hks
  refine ⟨_, ⟨en, clock, hq, ⟨hsz, hst, h1⟩, Nat.le_refl _, rfl⟩, ?_, by rw [length_sorted]; simp⟩
  have := (WideShapes.sorted_perm (en.toList.map (WideElems.rg (H := Unit) P k (fun _ => some (.nil, []))))).map (fun p => back p.1)
  rw [h2] at this
  exact this

theorem one_arg1 {P : Program} {w : World} {φ : Nat → Nat × Nat} {A : Nat → Prop} {N : Nat} {d : D} {vs : Array Value} (h : Rs P w φ A N [d] vs.toList) : ∃ u, vs = #[u] ∧ R P w φ A N d u := by
  obtain ⟨l⟩ := vs
  obtain ⟨h1, h2⟩ := h
  match l, h1 with
  | [u], _ => exact ⟨u, rfl, h2 0 d u rfl rfl⟩

def sortedG (k : FuncId) (T : TypeId) (srt : List Value → Option (List Value)) : List D → List Row → Option Eff
  | [.fn g [.pt r 0]], H => match Nat.beq g k with
    | true => match H[r]? with
      | some (.box _ [.f (.v (.map none))]) => some ⟨.f (.v (.slice none 0 0)), [], []⟩
      | some (.box _ [.mp q]) => match H[q]? with
        | some (.map es) => match srt (es.map (·.1)) with
          | some xs => some (resOf T H.length xs)
          | none => none
        | _ => none
      | _ => none
    | false => none
  | _, _ => none

theorem sortedG_ok {P : Program} {f k : FuncId} {T : TypeId} (hT0 : (P.info? T).map (·.size) = some 1) {srt : List Value → Option (List Value)} (hone : ∀ l xs, srt l = some xs → ∀ x ∈ xs, x.oneCell' = true)
    (hnil : ∀ (w : World) (b : Nat), b < w.heap.size → w.cell? ⟨b, 0, none⟩ = some (.map none) → Calls P f #[.func (.func k) #[] #[.pointer (some ⟨b, 0, none⟩)]] w fun e w' => e = .returned (.slice none 0 0) ∧ Below w.heap.size w w')
    (hsome : ∀ (w : World) (b q : Nat) (en : Array MapEntry) (clock : Nat) (xs : List Value), b < w.heap.size → w.cell? ⟨b, 0, none⟩ = some (.map (some q)) → w.heap[q]? = some (.map en clock) → MapKept.Stamped en clock → srt (en.toList.map (·.key)) = some xs →
      Calls P f #[.func (.func k) #[] #[.pointer (some ⟨b, 0, none⟩)]] w fun e w' => ∃ v, e = .returned v ∧ w'.ownsRow w.heap.size T 1 v xs.length xs ∧ (v = .slice none 0 0 ↔ xs = []) ∧ Below w.heap.size w w') : Sound P f (sortedG k T srt) := by
  obtain ⟨i, hT, hi⟩ := Option.map_eq_some_iff.1 hT0
  intro args H e hg w φ X vs hH hargs
  unfold sortedG at hg
  split at hg
  · rename_i g r
    split at hg
    · rename_i hgk
      obtain rfl : g = k := Nat.eq_of_beq_eq_true hgk
      obtain ⟨u, rfl, hu⟩ := one_arg1 hargs
      cases hu with | fn hs hr =>
      rename_i us
      obtain ⟨u, rfl⟩ : ∃ u, us = #[u] := by
        obtain ⟨l⟩ := us
        match l, hs with
        | [u], _ => exact ⟨u, rfl⟩
      have hu := hr 0 _ u rfl rfl
      cases hu with | pt hrl =>
      split at hg
      · rename_i T0 hrow
        cases hg
        obtain ⟨h0, cs, h1, h2, h3⟩ := hH.rows r _ hrow
        obtain ⟨u, rfl⟩ : ∃ u, cs = #[u] := by
          obtain ⟨l⟩ := cs
          match l, h2.1 with
          | [u], _ => exact ⟨u, rfl⟩
        have hu := h2.2 0 _ u rfl rfl
        cases hu with | f hu => cases hu with | v _ =>
        rw [h0]
        refine (hnil w (φ r).1 (block_lt h1) (by simp [World.cell?, h1])).mono ?_
        rintro e w' ⟨rfl, hb⟩
        exact ⟨_, rfl, leaves_same hH (keep_below hb) fun A => .f (.v rfl)⟩
      · rename_i T0 q hrow
        split at hg
        · rename_i es hmap
          split at hg
          · rename_i xs hxs
            cases hg
            obtain ⟨h0, cs, h1, h2, h3⟩ := hH.rows r _ hrow
            obtain ⟨u, rfl⟩ : ∃ u, cs = #[u] := by
              obtain ⟨l⟩ := cs
              match l, h2.1 with
              | [u], _ => exact ⟨u, rfl⟩
            have hu := h2.2 0 _ u rfl rfl
            cases hu with | mp hql =>
            obtain ⟨en, clock, m1, m0, m2, m3⟩ := hH.rows q _ hmap
            have hkeys : en.toList.map (·.key) = es.map (·.1) := by
              apply List.ext_getElem?
              intro j
              rw [List.getElem?_map, List.getElem?_map]
              by_cases hj : j < es.length
              · have e1 : es[j]? = some es[j] := List.getElem?_eq_getElem hj
                have hj' : j < en.size := by omega
                have e2 : en[j]? = some en[j] := Array.getElem?_eq_getElem hj'
                have e3 : en.toList[j]? = some en[j] := by rw [Array.getElem?_toList]; exact e2
                rw [e1, e3]
                exact congrArg some ((m3 j es[j].1 es[j].2 en[j] e1 e2).1)
              · rw [List.getElem?_eq_none (by rw [Array.length_toList]; omega), List.getElem?_eq_none (by omega)]; rfl
            rw [h0]
            refine (hsome w (φ r).1 (φ q).1 en clock xs (block_lt h1) (by simp [World.cell?, h1]) m1 m0 (by rw [hkeys]; exact hxs)).mono ?_
            rintro e w' ⟨v, rfl, hrow, hn, hb⟩
            exact ⟨v, rfl, sorted_leaves hH hb hT hi (hone _ _ hxs) hrow hn⟩
          · cases hg
        · cases hg
      · cases hg
    · cases hg
  · cases hg
end Go.Proofs.Ytjbkckhpoicaeaa.Mir

/- slices.Sorted(maps.Keys(m)) told by its contract: keys that are ints. -/
namespace Go.Proofs
open Go.RowKit Go.Maps Go.Sort Go.Shelf
def Ytjbkckhpoicaeaa.keysL_ren : Go.Shelf.Ren := ⟨fun | 7 => 53 | 10 => 68 | n => n, fun | 23 => 73 | 26 => 3 | 3 => 41 | 28 => 84 | 0 => 0 | 27 => 83 | 33 => 97 | 4 => 4 | n => n, fun | n => n⟩
theorem Ytjbkckhpoicaeaa.keysL : Go.Proofs.SlLaysZI.n7 Try.prog Ytjbkckhpoicaeaa.keysL_ren := {
  mixed := by kernel_rfl
  f7 := ⟨Try.f53.name, by decide, Try.func53.trans (congrArg some (by kernel_rfl))⟩
  f10 := ⟨Try.f68.name, by decide, Try.func68.trans (congrArg some (by kernel_rfl))⟩
  t0 := Try.underlying0
  a0 := Try.isAgg0
  z0 := Try.sizeOf0
  v0 := Try.zeroValue0
  t4 := Try.underlying4
  a4 := Try.isAgg4
  z4 := Try.sizeOf4
  v4 := Try.zeroValue4
  t23 := Try.underlying73
  a23 := Try.isAgg73
  z23 := Try.sizeOf73
  v23 := Try.zeroValue73
  t26 := Try.underlying3
  a26 := Try.isAgg3
  z26 := Try.sizeOf3
  v26 := Try.zeroValue3
  t27 := Try.underlying83
  a27 := Try.isAgg83
  z27 := Try.sizeOf83
  v27 := Try.zeroValue83
  t28 := Try.underlying84
  a28 := Try.isAgg84
  z28 := Try.sizeOf84
  v28 := Try.zeroValue84
  t33 := Try.underlying97
  a33 := Try.isAgg97
  z33 := Try.sizeOf97
  v33 := Try.zeroValue97 }

def Ytjbkckhpoicaeaa.sortedL_ren : Go.Shelf.Ren := ⟨fun | 6 => 52 | 8 => 67 | 9 => 47 | 11 => 82 | 13 => 65 | 12 => 64 | 23 => 80 | 24 => 81 | 14 => 71 | 15 => 72 | 16 => 73 | 17 => 74 | 18 => 75 | 19 => 76 | 20 => 77 | 21 => 78 | 22 => 79 | 25 => 84 | 26 => 85 | 27 => 86 | 28 => 87 | 29 => 88 | 30 => 89 | 31 => 90 | n => n, fun | 26 => 3 | 28 => 84 | 24 => 23 | 0 => 0 | 3 => 3 | 37 => 95 | 48 => 109 | 50 => 111 | 4 => 4 | 40 => 101 | 39 => 100 | 45 => 106 | 5 => 5 | 9 => 9 | 51 => 114 | 55 => 118 | 57 => 120 | 58 => 121 | 33 => 97 | n => n, fun | n => n⟩
theorem Ytjbkckhpoicaeaa.sortedL : Go.Proofs.SlLaysZI.n6 Try.prog Ytjbkckhpoicaeaa.sortedL_ren := {
  mixed := by kernel_rfl
  f6 := ⟨Try.f52.name, by decide, Try.func52.trans (congrArg some (by kernel_rfl))⟩
  f8 := ⟨Try.f67.name, by decide, Try.func67.trans (congrArg some (by kernel_rfl))⟩
  f11 := ⟨Try.f82.name, by decide, Try.func82.trans (congrArg some (by kernel_rfl))⟩
  t0 := Try.underlying0
  a0 := Try.isAgg0
  z0 := Try.sizeOf0
  v0 := Try.zeroValue0
  t24 := Try.underlying23
  a24 := Try.isAgg23
  z24 := Try.sizeOf23
  v24 := Try.zeroValue23
  t26 := Try.underlying3
  a26 := Try.isAgg3
  z26 := Try.sizeOf3
  v26 := Try.zeroValue3
  t28 := Try.underlying84
  a28 := Try.isAgg84
  z28 := Try.sizeOf84
  v28 := Try.zeroValue84
  i26 := by kernel_rfl }

def Ytjbkckhpoicaeaa.sortL_ren : Go.Shelf.Ren := ⟨fun | 5 => 47 | 8 => 65 | 7 => 64 | 19 => 80 | 20 => 81 | 10 => 71 | 11 => 72 | 12 => 73 | 13 => 74 | 14 => 75 | 15 => 76 | 16 => 77 | 17 => 78 | 18 => 79 | 30 => 84 | 31 => 85 | 32 => 86 | 33 => 87 | 34 => 88 | 35 => 89 | 40 => 90 | n => n, fun | 23 => 23 | 25 => 3 | 3 => 3 | 32 => 95 | 22 => 23 | 0 => 0 | 44 => 109 | 46 => 111 | 4 => 4 | 36 => 101 | 35 => 100 | 41 => 106 | 5 => 5 | 9 => 9 | 53 => 114 | 57 => 118 | 63 => 120 | 64 => 121 | n => n, fun | n => n⟩
theorem Ytjbkckhpoicaeaa.sortL : Go.Proofs.SlLaysM.n5 Try.prog Ytjbkckhpoicaeaa.sortL_ren := {
  mixed := by kernel_rfl
  f5 := ⟨Try.f47.name, by decide, Try.func47.trans (congrArg some (by kernel_rfl))⟩
  f7 := ⟨Try.f64.name, by decide, Try.func64.trans (congrArg some (by kernel_rfl))⟩
  f8 := Try.func65.trans (congrArg some (by kernel_rfl))
  f10 := ⟨Try.f71.name, by decide, Try.func71.trans (congrArg some (by kernel_rfl))⟩
  f11 := ⟨Try.f72.name, by decide, Try.func72.trans (congrArg some (by kernel_rfl))⟩
  f12 := ⟨Try.f73.name, by decide, Try.func73.trans (congrArg some (by kernel_rfl))⟩
  f13 := ⟨Try.f74.name, by decide, Try.func74.trans (congrArg some (by kernel_rfl))⟩
  f14 := ⟨Try.f75.name, by decide, Try.func75.trans (congrArg some (by kernel_rfl))⟩
  f15 := ⟨Try.f76.name, by decide, Try.func76.trans (congrArg some (by kernel_rfl))⟩
  f16 := ⟨Try.f77.name, by decide, Try.func77.trans (congrArg some (by kernel_rfl))⟩
  f17 := ⟨Try.f78.name, by decide, Try.func78.trans (congrArg some (by kernel_rfl))⟩
  f18 := ⟨Try.f79.name, by decide, Try.func79.trans (congrArg some (by kernel_rfl))⟩
  f19 := Try.func80.trans (congrArg some (by kernel_rfl))
  f20 := Try.func81.trans (congrArg some (by kernel_rfl))
  f30 := ⟨Try.f84.name, by decide, Try.func84.trans (congrArg some (by kernel_rfl))⟩
  f31 := Try.func85.trans (congrArg some (by kernel_rfl))
  f32 := Try.func86.trans (congrArg some (by kernel_rfl))
  f33 := ⟨Try.f87.name, by decide, Try.func87.trans (congrArg some (by kernel_rfl))⟩
  f34 := ⟨Try.f88.name, by decide, Try.func88.trans (congrArg some (by kernel_rfl))⟩
  f35 := ⟨Try.f89.name, by decide, Try.func89.trans (congrArg some (by kernel_rfl))⟩
  f40 := ⟨Try.f90.name, by decide, Try.func90.trans (congrArg some (by kernel_rfl))⟩
  t0 := Try.underlying0
  a0 := Try.isAgg0
  z0 := Try.sizeOf0
  v0 := Try.zeroValue0
  t3 := Try.underlying3
  a3 := Try.isAgg3
  z3 := Try.sizeOf3
  v3 := Try.zeroValue3
  t4 := Try.underlying4
  a4 := Try.isAgg4
  z4 := Try.sizeOf4
  v4 := Try.zeroValue4
  t5 := Try.underlying5
  a5 := Try.isAgg5
  z5 := Try.sizeOf5
  v5 := Try.zeroValue5
  t9 := Try.underlying9
  a9 := Try.isAgg9
  z9 := Try.sizeOf9
  v9 := Try.zeroValue9
  t22 := Try.underlying23
  a22 := Try.isAgg23
  z22 := Try.sizeOf23
  v22 := Try.zeroValue23
  t23 := Try.underlying23
  a23 := Try.isAgg23
  z23 := Try.sizeOf23
  v23 := Try.zeroValue23
  t25 := Try.underlying3
  a25 := Try.isAgg3
  z25 := Try.sizeOf3
  v25 := Try.zeroValue3
  t32 := Try.underlying95
  a32 := Try.isAgg95
  z32 := Try.sizeOf95
  v32 := Try.zeroValue95
  t35 := Try.underlying100
  a35 := Try.isAgg100
  z35 := Try.sizeOf100
  v35 := Try.zeroValue100
  t36 := Try.underlying101
  a36 := Try.isAgg101
  z36 := Try.sizeOf101
  v36 := Try.zeroValue101
  t41 := Try.underlying106
  a41 := Try.isAgg106
  z41 := Try.sizeOf106
  v41 := Try.zeroValue106
  t44 := Try.underlying109
  a44 := Try.isAgg109
  z44 := Try.sizeOf109
  v44 := Try.zeroValue109
  t46 := Try.underlying111
  a46 := Try.isAgg111
  z46 := Try.sizeOf111
  v46 := Try.zeroValue111
  t53 := Try.underlying114
  a53 := Try.isAgg114
  z53 := Try.sizeOf114
  v53 := Try.zeroValue114
  t57 := Try.underlying118
  a57 := Try.isAgg118
  z57 := Try.sizeOf118
  v57 := Try.zeroValue118
  t63 := Try.underlying120
  a63 := Try.isAgg120
  z63 := Try.sizeOf120
  v63 := Try.zeroValue120
  t64 := Try.underlying121
  a64 := Try.isAgg121
  z64 := Try.sizeOf121
  v64 := Try.zeroValue121 }

end Go.Proofs
namespace Go.Proofs.Ytjbkckhpoicaeaa.Mir
open Go Go.RowKit Go.Shelf Go.Maps Go.Sort

def ofI : Value → Option Int
  | .int .i64 n => match decide (-9223372036854775808 ≤ n) && decide (n ≤ 9223372036854775807) with
    | true => some n
    | false => none
  | _ => none
def sortI (vs : List Value) : Option (List Value) := match keysV ofI vs with
  | some ks => match Nat.ble ks.length 1000000 with
    | true => some ((isort (fun x y => decide (x ≤ y)) ks).map encZ)
    | false => none
  | none => none
theorem sortI_eq {vs xs : List Value} (h : sortI vs = some xs) : ∃ ks, keysV ofI vs = some ks ∧ ks.length ≤ 1000000 ∧ xs = (isort (fun x y => decide (x ≤ y)) ks).map encZ := by
  unfold sortI at h
  split at h
  · rename_i ks hks
    split at h
    · rename_i hl
      cases h
      exact ⟨ks, hks, Nat.le_of_ble_eq_true hl, rfl⟩
    · cases h
  · cases h

theorem sortsI (m : Nat) : AnyZI.SortsIn Try.prog Ytjbkckhpoicaeaa.sortedL_ren Fence.wide m :=
  ⟨fun blk off cap ss W hH hblk hsz => callsIn_wide.2 (AnyM.slices_Sort_int Ytjbkckhpoicaeaa.sortL blk off cap ss W hH hblk hsz),
   fun p cap W => callsIn_wide.2 (AnyM.slices_Sort_int_none Ytjbkckhpoicaeaa.sortL p cap W)⟩

theorem sortedI_ok : Sound Try.prog 52 (sortedG 68 3 sortI) := by
  refine sortedG_ok (by kernel_rfl) ?_ ?_ ?_
  · intro l xs h x hx
    obtain ⟨ks, _, _, rfl⟩ := sortI_eq h
    obtain ⟨y, _, rfl⟩ := List.mem_map.1 hx
    rfl
  · intro w b hb hm
    refine (callsIn_wide (n := 5)).1 ?_
    have hseq : SeqGives Fence.wide 2 Try.prog 68 #[.pointer (some ⟨b, 0, none⟩)] encZ (fun ss : List Int => ss = []) 0 w :=
      AnyZI.keys_gives_nil (ρ := Ytjbkckhpoicaeaa.keysL_ren) { Ytjbkckhpoicaeaa.keysL with } Fence.wide _ trivial rfl b _ hb hm
    have cS := AnyZI.sorted_in Ytjbkckhpoicaeaa.sortedL Fence.wide 5 trivial trivial trivial trivial rfl (by omega) (sortsI _) (enters_of Try.func47 (by kernel_rfl) rfl) 68 #[.pointer (some ⟨b, 0, none⟩)] trivial (enters_of Try.func68 (by kernel_rfl) rfl) _ 0 (Nat.zero_le _) (by omega) _ hseq
    change CallsIn _ _ Try.prog 52 _ _ _ at cS
    refine cS.mono ?_
    rintro e w' ⟨v, ss, rfl, rfl, hrow, hnil, hb⟩
    obtain rfl : v = .slice none 0 0 := hnil.2 rfl
    exact ⟨rfl, hb⟩
  · intro w b q en clock xs hb hm hq hst hxs
    obtain ⟨ks, hks, hlen, rfl⟩ := sortI_eq hxs
    have hen : en.size = ks.length := by
      have : ∀ (l : List Value) (ks : List Int), keysV ofI l = some ks → l.length = ks.length := by
        intro l
        induction l with
        | nil => intro ks h; cases h; rfl
        | cons v l ih =>
          intro ks h
          unfold keysV at h
          split at h
          · split at h
            · rename_i hxs
              cases h
              simp [ih _ hxs]
            · cases h
          · cases h
      have := this _ _ hks
      simpa using this
    obtain ⟨es, hown, hperm, hel⟩ := owns_keys (P := Try.prog) (k := 3) ofI (Lit.int .i64) Go.intOf (fun _ => rfl) (fun v x h => by
      unfold ofI at h
      split at h
      · rename_i n
        split at h
        · rename_i hn
          cases h
          simp at hn
          have hk : Try.prog.underlying 3 = some (.int .i64) := by kernel_rfl
          simp [keyOf, hk, mapKey, Lit.wf]
          exact hn
        · cases h
      · cases h) hq hst hks (by simp [maxLen]; omega)
    refine (callsIn_wide (n := 5)).1 ?_
    have hseq : SeqGives Fence.wide 2 Try.prog 68 #[.pointer (some ⟨b, 0, none⟩)] encZ (fun ss => ss.Perm (intKeys (.map es))) (Maps.size (.map es)) w :=
      AnyZI.keys_gives (ρ := Ytjbkckhpoicaeaa.keysL_ren) { Ytjbkckhpoicaeaa.keysL with } Fence.wide _ trivial rfl (by omega) b q en.size (.map es) _ hb hm hown
    have cS := AnyZI.sorted_in Ytjbkckhpoicaeaa.sortedL Fence.wide 5 trivial trivial trivial trivial rfl (by omega) (sortsI _) (enters_of Try.func47 (by kernel_rfl) rfl) 68 #[.pointer (some ⟨b, 0, none⟩)] trivial (enters_of Try.func68 (by kernel_rfl) rfl) _ _ (by rw [Maps.size_eq, hel, hen]; simp [maxLen]; omega) (by rw [Maps.size_eq, hel, hen]; omega) _ hseq
    change CallsIn _ _ Try.prog 52 _ _ _ at cS
    refine cS.mono ?_
    rintro e w' ⟨v, ss, rfl, hS, hrow, hnil, hb⟩
    have hss : ss.Perm ks := hS.trans hperm
    have hsort := isort_eq (le := fun x y : Int => decide (x ≤ y)) (by intro a b c; simp; omega) (by intro a b; simp; omega) (by intro a b; simp; omega) hss
    refine ⟨v, rfl, ?_, ?_, hb⟩
    · rw [hsort] at hrow
      have : ss.length = ((isort (fun x y : Int => decide (x ≤ y)) ks).map encZ).length := by
        rw [← hsort]; simp
      rw [← this]; exact hrow
    · rw [hnil, List.map_eq_nil_iff, ← hsort]
      constructor
      · rintro rfl; simp
      · intro h
        have := congrArg List.length h
        simpa using this
end Go.Proofs.Ytjbkckhpoicaeaa.Mir

/- slices.Sort of ints told by its contract: a live row is put in order. -/
namespace Go.Proofs.Ytjbkckhpoicaeaa.Mir
open Go Go.RowKit Go.Shelf Go.Maps Go.Sort
set_option linter.unusedVariables false
set_option linter.unusedSimpArgs false

def sortL (l : List Int) : List Int := isort (fun x y => decide (x ≤ y)) l
theorem sortL_perm (l : List Int) : (sortL l).Perm l := isort_perm _ l
theorem sortL_len (l : List Int) : (sortL l).length = l.length := (sortL_perm l).length_eq
theorem sortL_rise (l : List Int) : (sortL l).Pairwise (· ≤ ·) := by
  have := isort_pairwise (le := fun x y : Int => decide (x ≤ y)) (fun a b c h1 h2 => by simp at *; omega) (fun a b => by simp; omega) l
  exact this.imp (fun h => by simpa using h)
theorem sortL_merge (l : List Int) : l.mergeSort (fun x y => decide (x ≤ y)) = sortL l :=
  isort_eq (fun a b c h1 h2 => by simp at *; omega) (fun a b => by simp; omega) (fun a b h1 h2 => by simp at *; omega) (List.Perm.refl l)
theorem putCells_row {enc : Int → Value} {pre us post : List Value} {d : List Int} (h : us.length = d.length) : putCells enc pre.length d.toArray (pre ++ us ++ post).toArray = (pre ++ d.map enc ++ post).toArray := by
  apply Array.toList_inj.1
  apply List.ext_getElem?
  intro i
  simp only [putCells, Array.toList_mapIdx, List.getElem?_mapIdx, List.append_assoc]
  by_cases h1 : i < pre.length
  · rw [List.getElem?_append_left h1, List.getElem?_append_left h1, List.getElem?_eq_getElem h1]
    simp; omega
  · rw [List.getElem?_append_right (l₁ := pre) (l₂ := us ++ post) (by omega), List.getElem?_append_right (l₁ := pre) (l₂ := d.map enc ++ post) (by omega)]
    by_cases h2 : i - pre.length < d.length
    · rw [List.getElem?_append_left (l₁ := us) (by omega), List.getElem?_append_left (l₁ := d.map enc) (by simpa using h2), List.getElem?_eq_getElem (l := us) (by omega), List.getElem?_map, List.getElem?_eq_getElem h2]
      simp only [Option.map_some]
      rw [if_pos ⟨by omega, by simp; omega⟩]
      simp [h2]
    · rw [List.getElem?_append_right (l₁ := us) (by omega), List.getElem?_append_right (l₁ := d.map enc) (by simp; omega), List.length_map, h]
      generalize post[i - pre.length - d.length]? = o
      cases o with
      | none => rfl
      | some v =>
        simp only [Option.map_some]
        rw [if_neg (by simp; omega)]
theorem heap_row {w : World} {g off m : Nat} {os : Array Obj} {cur : Array Value} {e : TypeId} {fr : Nat × Nat} (d : Array Int) (hb : w.heap[g]? = some (.cells cur e fr)) :
    (grow (putRow (Value.int .i64) (Sort.ahead w m) g off d) os).heap[g]? = some (.cells (putCells (Value.int .i64) off d cur) e fr) := by
  have hg : g < w.heap.size := (Array.getElem?_eq_some_iff.1 hb).1
  rw [heap_grow_old _ _ (by simpa using hg)]
  simp [putRow, mapBlock, Sort.ahead, Array.getElem?_modify, hb, onCells]
theorem heap_other {w : World} {g off m k : Nat} {os : Array Obj} (d : Array Int) (hk : k < w.heap.size) (hne : k ≠ g) :
    (grow (putRow (Value.int .i64) (Sort.ahead w m) g off d) os).heap[k]? = w.heap[k]? := by
  rw [heap_grow_old _ _ (by simpa using hk)]
  have : g ≠ k := fun e => hne e.symm
  simp [putRow, mapBlock, Sort.ahead, Array.getElem?_modify, this]
theorem sort_has : ∃ fn, Try.prog.funcs[47]? = some fn ∧ fn.body.isSome = true := by
  have h : ((Try.prog.funcs[47]?).bind fun fn => fn.body).isSome = true := by kernel_rfl
  cases hf : Try.prog.funcs[47]? with
  | none => rw [hf] at h; cases h
  | some fn => rw [hf] at h; exact ⟨fn, rfl, h⟩
theorem c_int_Sort0 : Con Try.prog 47 [.f (.v (.slice none 0 0))] [] fun r H' => r = .tp [] ∧ H' = [] := by
  refine ⟨sort_has, fun w φ X vs hH hargs => ?_⟩
  obtain ⟨v, rfl, hv⟩ := one_arg1 hargs
  cases hv with | f hv => cases hv with | v _ =>
  have c := AnyM.slices_Sort_int_none Ytjbkckhpoicaeaa.sortL none 0 w
  change Calls Try.prog 47 _ _ _ at c
  refine c.mono ?_
  rintro e w' ⟨rfl, rfl⟩
  exact ⟨_, _, _, rfl, ⟨rfl, rfl⟩, LeavesW.of (Leaves.quiet hH (.tp rfl (fun i d u hd => by simp at hd)))⟩
theorem c_int_Sort (l : List Int) (n : Nat) (hn : l.length = n + 1) (hl : l.length ≤ 1000000) :
    Con Try.prog 47 [.sl 0 0 (n + 1)] [.data 3 (l.map iF)] fun r H' => r = .tp [] ∧ H' = [.data 3 ((sortL l).map iF)] := by
  refine ⟨sort_has, fun w φ X vs hH hargs => ?_⟩
  obtain ⟨v, rfl, hv⟩ := one_arg1 hargs
  obtain ⟨pre, us, post, hblk, hpre, hul, hus⟩ := hH.rows 0 _ rfl
  have hus' : us = l.map (Value.int .i64) := by
    apply List.ext_getElem?
    intro j
    by_cases hj : j < l.length
    · have hju : j < us.length := by rw [hul]; simpa using hj
      have h1 : (l.map iF)[j]? = some (iF l[j]) := by rw [List.getElem?_map, List.getElem?_eq_getElem hj]; rfl
      have h2 := hus j _ us[j] h1 (List.getElem?_eq_getElem hju)
      rw [List.getElem?_eq_getElem hju, List.getElem?_map, List.getElem?_eq_getElem hj]
      generalize us[j] = u at h2 ⊢
      cases h2 with | v _ => rfl
    · rw [List.getElem?_eq_none (by rw [hul]; simpa using Nat.le_of_not_lt hj), List.getElem?_eq_none (by simpa using Nat.le_of_not_lt hj)]
  cases hv with | sl hr hcap hb hi hsz =>
  rename_i cap cs T fr i
  rw [hblk] at hb
  have hH1 : Holds (Value.int .i64) w (φ 0).1 ((φ 0).2 + 0) l.toArray := by
    intro j hj
    have hj' : j < l.length := by simpa using hj
    refine ⟨?_, by simp [World.frozen?, hblk]⟩
    simp only [World.cell?, hblk, Option.isSome_none, Bool.false_eq_true, if_false]
    rw [← Array.getElem?_toList, List.append_assoc, List.getElem?_append_right (by omega), List.getElem?_append_left (by rw [hus']; simp; omega), hus', Nat.add_zero, show (φ 0).2 + j - pre.length = j by omega]
    simp [hj']
  have c := AnyM.slices_Sort_int Ytjbkckhpoicaeaa.sortL (φ 0).1 ((φ 0).2 + 0) cap l w hH1 (block_lt hblk) (by omega)
  rw [sortL_merge, hn] at c
  change Calls Try.prog 47 _ _ _ at c
  refine c.mono ?_
  rintro e w' ⟨rfl, m, os, rfl⟩
  have hnew := heap_row (m := m) (os := os) (off := (φ 0).2 + 0) (sortL l).toArray hblk
  have hcells : putCells (Value.int .i64) ((φ 0).2 + 0) (sortL l).toArray (pre ++ us ++ post).toArray = (pre ++ (sortL l).map (Value.int .i64) ++ post).toArray := by
    rw [Nat.add_zero, ← hpre, putCells_row (by rw [hus', List.length_map, sortL_len])]
  rw [hcells] at hnew
  have hkeep : Keep (fun b => true = true ∧ b = (φ 0).1) w (grow (putRow (Value.int .i64) (Sort.ahead w m) (φ 0).1 ((φ 0).2 + 0) (sortL l).toArray) os) := by
    refine ⟨?_, fun b hb1 hb2 => heap_other _ hb1 fun e => hb2 ⟨rfl, e⟩, fun b cs1 T1 fr1 h1 => ?_, rfl, rfl, rfl⟩
    · simp [grow, putRow, mapBlock, Sort.ahead]
    · by_cases hbg : b = (φ 0).1
      · subst hbg
        exact ⟨_, _, heap_row _ h1, by simp [putCells]⟩
      · exact ⟨_, _, (heap_other _ (block_lt h1) hbg).trans h1, rfl⟩
  obtain ⟨t1, t2, t3⟩ := hH.turn (r := 0) (row' := .data 3 ((sortL l).map iF)) rfl hkeep (fun _ => rfl) (fun hav => ⟨pre, (sortL l).map (Value.int .i64), post, hnew, hpre, by simp, fun j x u hx hu => by
    rw [List.getElem?_map] at hx hu
    cases hj : (sortL l)[j]? with
    | none => rw [hj] at hx; cases hx
    | some z => rw [hj] at hx hu; cases hx; cases hu; exact .v rfl⟩)
  have hlv : Leaves Try.prog w φ X [.data 3 (l.map iF)] ⟨.tp [], [(0, .data 3 ((sortL l).map iF))], []⟩ (.tuple #[]) (grow (putRow (Value.int .i64) (Sort.ahead w m) (φ 0).1 ((φ 0).2 + 0) (sortL l).toArray) os) :=
    ⟨φ, fun _ _ => rfl, t1, .tp rfl (fun i d u hd => by simp at hd), hkeep.mono (fun b _ h => h.2 ▸ live_of (r := 0) rfl rfl), t2⟩
  exact ⟨_, _, _, rfl, ⟨rfl, rfl⟩, LeavesW.of hlv⟩
end Go.Proofs.Ytjbkckhpoicaeaa.Mir

/- The program's Ahead: all that a node needs, by whatever way. -/
namespace Go.Proofs.Ytjbkckhpoicaeaa.Mir
open Go Go.RowKit
set_option linter.unusedVariables false
set_option linter.unusedSimpArgs false
set_option maxHeartbeats 2000000

/-- x is needed by a, by whatever way. -/
inductive Rch (ds : List Nd) : Int → Int → Prop
  | need {a x : Int} : x ∈ (gt ds a.toNat).ns → Rch ds a x
  | far {a y x : Int} : Rch ds a y → x ∈ (gt ds y.toNat).ns → Rch ds a x
/-- What Ahead tells. -/
def AheadP (ds : List Nd) (node : Int) (s : List Int) : Prop :=
  if checkL ds = 0 ∧ 0 ≤ node ∧ node < ds.length then s.Pairwise (· < ·) ∧ (∀ x ∈ s, 0 ≤ x ∧ x < ds.length) ∧ ∀ x, x ∈ s ↔ Rch ds node x else s = []
theorem nodup_len : ∀ (n : Nat) (l : List Int), l.Nodup → (∀ x ∈ l, 0 ≤ x ∧ x < n) → l.length ≤ n
  | 0, [], _, _ => Nat.le_refl _
  | 0, x :: l, _, h => by have := h x (by simp); omega
  | n + 1, l, hn, h => by
    by_cases hm : (n : Int) ∈ l
    · have h1 := nodup_len n (l.erase n) (hn.erase _) (fun x hx => by
        have h2 := (List.Nodup.mem_erase_iff hn).1 hx
        have h3 := h x h2.2
        have h4 : x ≠ n := h2.1
        omega)
      rw [List.length_erase_of_mem hm] at h1
      omega
    · have := nodup_len n l hn (fun x hx => by
        have h3 := h x hx
        have h4 : x ≠ n := fun e => hm (e ▸ hx)
        omega)
      omega
theorem rise_len {n : Int} : ∀ {l : List Int} {a : Int}, rise n a l = true → a < n → (l.length : Int) ≤ n - a - 1
  | [], a, _, ha => by simp; omega
  | y :: l, a, h, ha => by
    simp only [rise, Bool.and_eq_true, decide_eq_true_eq] at h
    have := rise_len h.2 (by omega)
    simp only [List.length_cons]
    omega
theorem rise_lt {n : Int} : ∀ {l : List Int} {a : Int}, rise n a l = true → l.Pairwise (· < ·)
  | [], _, _ => .nil
  | y :: l, a, h => by
    simp only [rise, Bool.and_eq_true, decide_eq_true_eq] at h
    exact List.pairwise_cons.2 ⟨fun x hx => (needs_in h.2 x hx).1, rise_lt h.2⟩
structure AhI (ds : List Nd) (node : Int) (todo out : List Int) : Prop where
  tin : ∀ x ∈ todo, Rch ds node x ∧ 0 ≤ x ∧ x < ds.length
  oin : ∀ x ∈ out, Rch ds node x ∧ 0 ≤ x ∧ x < ds.length
  nd : out.Nodup
  base : ∀ x ∈ (gt ds node.toNat).ns, x ∈ todo ∨ x ∈ out
  cl : ∀ y ∈ out, ∀ x ∈ (gt ds y.toNat).ns, x ∈ todo ∨ x ∈ out
  bound : todo.length ≤ 8 * (out.length + 1)
theorem ns_of {ds : List Nd} (hc : checkL ds = 0) {a : Int} (ha : 0 ≤ a ∧ a < ds.length) : (∀ x ∈ (gt ds a.toNat).ns, 0 ≤ x ∧ x < ds.length) ∧ (gt ds a.toNat).ns.length ≤ 8 ∧ (gt ds a.toNat).ns.Pairwise (· < ·) := by
  have h1 := check_needs hc (gt_mem (l := ds) (k := a.toNat) (by omega))
  have h2 := rise_len h1 (by omega)
  have h3 := check_in hc
  refine ⟨fun x hx => ?_, by omega, rise_lt h1⟩
  have := needs_in h1 x hx
  omega
theorem AhI.start {ds : List Nd} (hc : checkL ds = 0) {a : Int} (ha : 0 ≤ a ∧ a < ds.length) : AhI ds a (gt ds a.toNat).ns [] := by
  obtain ⟨h1, h2, _⟩ := ns_of hc ha
  exact ⟨fun x hx => ⟨.need hx, h1 x hx⟩, fun x hx => (by cases hx), List.nodup_nil, fun x hx => .inl hx, fun y hy => (by cases hy), by simp; omega⟩
theorem AhI.len {ds : List Nd} {a : Int} {todo out : List Int} (h : AhI ds a todo out) : out.length ≤ ds.length := nodup_len _ _ h.nd fun x hx => (h.oin x hx).2
theorem AhI.skip {ds : List Nd} {a x : Int} {todo out : List Int} (h : AhI ds a (x :: todo) out) (hx : x ∈ out) : AhI ds a todo out := by
  refine ⟨fun y hy => h.tin y (by simp [hy]), h.oin, h.nd, fun y hy => ?_, fun z hz y hy => ?_, by have := h.bound; simp at this; omega⟩
  · rcases h.base y hy with h1 | h1
    · rcases List.mem_cons.1 h1 with rfl | h1
      · exact .inr hx
      · exact .inl h1
    · exact .inr h1
  · rcases h.cl z hz y hy with h1 | h1
    · rcases List.mem_cons.1 h1 with rfl | h1
      · exact .inr hx
      · exact .inl h1
    · exact .inr h1
theorem AhI.more {ds : List Nd} (hc : checkL ds = 0) {a x : Int} {todo out : List Int} (h : AhI ds a (x :: todo) out) (hx : x ∉ out) : AhI ds a (todo ++ (gt ds x.toNat).ns) (out ++ [x]) := by
  have hx' := h.tin x (by simp)
  obtain ⟨h1, h2, _⟩ := ns_of hc hx'.2
  have key : ∀ y, y ∈ x :: todo ∨ y ∈ out → y ∈ todo ++ (gt ds x.toNat).ns ∨ y ∈ out ++ [x] := by
    intro y hy
    rcases hy with hy | hy
    · rcases List.mem_cons.1 hy with rfl | hy
      · exact .inr (by simp)
      · exact .inl (by simp [hy])
    · exact .inr (by simp [hy])
  refine ⟨fun y hy => ?_, fun y hy => ?_, ?_, fun y hy => key y (h.base y hy), fun z hz y hy => ?_, ?_⟩
  · rcases List.mem_append.1 hy with hy | hy
    · exact h.tin y (by simp [hy])
    · exact ⟨.far hx'.1 hy, h1 y hy⟩
  · rcases List.mem_append.1 hy with hy | hy
    · exact h.oin y hy
    · rw [List.mem_singleton.1 hy]; exact hx'
  · rw [List.nodup_append]
    refine ⟨h.nd, by simp, fun y hy z hz => ?_⟩
    rw [List.mem_singleton.1 hz]
    rintro rfl
    exact hx hy
  · rcases List.mem_append.1 hz with hz | hz
    · exact key y (h.cl z hz y hy)
    · rw [List.mem_singleton.1 hz] at hy
      exact .inl (by simp [hy])
  · have := h.bound
    simp at this ⊢
    omega
theorem AhI.ends {ds : List Nd} (hc : checkL ds = 0) {a : Int} (ha : 0 ≤ a ∧ a < ds.length) {out : List Int} (h : AhI ds a [] out) : AheadP ds a (sortL out) := by
  have hp := sortL_perm out
  rw [AheadP, if_pos ⟨hc, ha⟩]
  refine ⟨?_, fun x hx => (h.oin x (hp.subset hx)).2, fun x => ⟨fun hx => (h.oin x (hp.subset hx)).1, fun hx => hp.symm.subset ?_⟩⟩
  · have h1 := sortL_rise out
    have h2 : (sortL out).Nodup := hp.symm.nodup h.nd
    exact (List.Pairwise.and h1 h2).imp (fun ⟨h3, h4⟩ => by omega)
  · induction hx with
    | need hx => rcases h.base _ hx with h1 | h1; cases h1; exact h1
    | far _ hx ih => rcases h.cl _ ih _ hx with h1 | h1; cases h1; exact h1
theorem drop_app_i {l m : List Int} {n : Nat} : (l.map iF).drop n ++ m.map iF = (l.drop n ++ m).map iF := by rw [List.map_append, List.map_drop]
theorem app_nil_i {x : Int} : ([] : List F) ++ [.v (.int .i64 x)] = [x].map iF := id rfl
/-- What the loop holds. -/
def outQ (out : List Int) (off k : Nat) (xs : List Int) : D × D × List Row := match out with
  | [] => (.f (.v (.slice none 0 0)), .sl 0 off k, [.data 3 (xs.map iF)])
  | a :: l => (.sl 0 0 (l.length + 1), .sl 1 off k, [.data 3 ((a :: l).map iF), .data 3 (xs.map iF)])
set_option maxRecDepth 100000 in
theorem c_dag_Ahead (ds : List Nd) (node : Int) (hf : Fit ds) : Con Try.prog 13 [.f (fG ds), D.int node] [] fun r H' => (∃ s, r = .f (fI s) ∧ AheadP ds node s) ∧ H' = [] := by
  refine Con.walk good fn_dag_Ahead (by simp) ?_
  unfold s_dag_Ahead
  simp only [argsE, List.length_cons, List.length_nil, Nat.reduceAdd]
  repeat' (first | (with_reducible first | refine r1 ?_ | refine rK fun K hK => ?_ | refine wpS_app fun K hK => ?_ | (refine hK _ ?_; clear hK K) | refine rL fun K hK => ?_) | ((with_reducible refine And.intro (Chk.mk' ?_) ?_); kernel_rfl) | ((with_reducible refine HS.cond1 ?_ ?_); rfl) | ((with_reducible refine HS.cond0 ?_ ?_); rfl) | ((with_reducible apply HS.condB) <;> first | rfl | (with_reducible intro h)) | (with_reducible first | refine r2 ?_ | refine r3 ?_ | refine r4 ?_ | refine r5 ?_ | refine r6 ?_ | refine r7 ?_ | refine r8 ?_ | refine r9 ?_ | refine rA ?_ | refine rB ?_ | refine rC ?_ | refine rD ?_) | ((with_reducible refine blockQ_miss ?_ ?_); rfl) | (with_reducible refine Two.mk' (fun h => ?_) (fun h => ?_) <;> try (exfalso; omega)) | ((with_reducible refine Bsel.mk' (fun h => ?_) (fun h => ?_)) <;> (try simp only [h])) | ((fail_if_success (with_reducible first | refine s1 ?_ | refine s2 ?_ | refine s3 ?_ | refine s4 ?_ | refine s5 ?_ | refine s6 ?_ | refine s7 ?_ | refine s8 ?_ | refine s9 ?_)); simp (disch := omega) only [↓LD, LU, LS, LT, loadA_rf, ↓reduceIte, reduceCtorEq, Nat.reduceAdd, Nat.reduceMul, Nat.reduceSub, Nat.reduceLeDiff, Nat.reduceLT, Nat.reduceEqDiff, Int.reduceNeg, Int.reduceLT, Int.reduceLE, Int.reduceEq, Int.reduceToNat]) | ((with_reducible refine And.intro ?_ ?_); omega) | ((fail_if_success (with_reducible first | refine s1 ?_ | refine s2 ?_ | refine s3 ?_ | refine s4 ?_ | refine s5 ?_ | refine s6 ?_ | refine s7 ?_ | refine s8 ?_ | refine s9 ?_)); simp only [D.int, D.bool]))
  refine callW_self (c_dag_Check ds hf) ?_
  rintro _ _ ⟨rfl, rfl⟩
  by_cases hok : checkL ds = 0 ∧ 0 ≤ node ∧ node < ds.length
  · obtain ⟨hc, hn0, hn1⟩ := hok
    obtain ⟨_, hn8, _, _⟩ := check_in hc
    have hkl : node.toNat < ds.length := by omega
    have hA := AhI.start hc ⟨hn0, hn1⟩
    have hnl := hf.2 _ (gt_mem hkl)
    rw [hc]
    repeat' (first | (with_reducible first | refine r1 ?_ | refine rK fun K hK => ?_ | refine wpS_app fun K hK => ?_ | (refine hK _ ?_; clear hK K) | refine rL fun K hK => ?_) | ((with_reducible refine And.intro (Chk.mk' ?_) ?_); kernel_rfl) | ((with_reducible refine HS.cond1 ?_ ?_); rfl) | ((with_reducible refine HS.cond0 ?_ ?_); rfl) | ((with_reducible apply HS.condB) <;> first | rfl | (with_reducible intro h)) | (with_reducible first | refine r2 ?_ | refine r3 ?_ | refine r4 ?_ | refine r5 ?_ | refine r6 ?_ | refine r7 ?_ | refine r8 ?_ | refine r9 ?_ | refine rA ?_ | refine rB ?_ | refine rC ?_ | refine rD ?_) | ((with_reducible refine blockQ_miss ?_ ?_); rfl) | (with_reducible refine Two.mk' (fun h => ?_) (fun h => ?_) <;> try (exfalso; omega)) | ((with_reducible refine Bsel.mk' (fun h => ?_) (fun h => ?_)) <;> (try simp only [h])) | ((fail_if_success (with_reducible first | refine s1 ?_ | refine s2 ?_ | refine s3 ?_ | refine s4 ?_ | refine s5 ?_ | refine s6 ?_ | refine s7 ?_ | refine s8 ?_ | refine s9 ?_)); simp (disch := omega) only [↓LD, LU, LS, LT, loadA_rf, ↓reduceIte, reduceCtorEq, Nat.reduceAdd, Nat.reduceMul, Nat.reduceSub, Nat.reduceLeDiff, Nat.reduceLT, Nat.reduceEqDiff, Int.reduceNeg, Int.reduceLT, Int.reduceLE, Int.reduceEq, Int.reduceToNat, fG, List.append_nil, nd_load, nd_cs, nd_at0, nd_at1, nd_at2, -loadA_rf]) | ((with_reducible refine And.intro ?_ ?_); omega) | ((fail_if_success (with_reducible first | refine s1 ?_ | refine s2 ?_ | refine s3 ?_ | refine s4 ?_ | refine s5 ?_ | refine s6 ?_ | refine s7 ?_ | refine s8 ?_ | refine s9 ?_)); simp only [D.int, D.bool]))
    refine callW_self (c_int_Clone (gt ds node.toNat).ns (by have := hA.bound; simp at this; omega)) ?_
    rintro _ _ (⟨hnil, rfl, rfl⟩ | ⟨rfl, rfl⟩)
    · rw [hnil] at hA
      repeat' (first | (with_reducible first | refine r1 ?_ | refine rK fun K hK => ?_ | refine wpS_app fun K hK => ?_ | (refine hK _ ?_; clear hK K) | refine rL fun K hK => ?_) | ((with_reducible refine And.intro (Chk.mk' ?_) ?_); kernel_rfl) | ((with_reducible refine HS.cond1 ?_ ?_); rfl) | ((with_reducible refine HS.cond0 ?_ ?_); rfl) | ((with_reducible apply HS.condB) <;> first | rfl | (with_reducible intro h)) | (with_reducible first | refine r2 ?_ | refine r3 ?_ | refine r4 ?_ | refine r5 ?_ | refine r6 ?_ | refine r7 ?_ | refine r8 ?_ | refine r9 ?_ | refine rA ?_ | refine rB ?_ | refine rC ?_ | refine rD ?_) | ((with_reducible refine blockQ_miss ?_ ?_); rfl) | (with_reducible refine Two.mk' (fun h => ?_) (fun h => ?_) <;> try (exfalso; omega)) | ((with_reducible refine Bsel.mk' (fun h => ?_) (fun h => ?_)) <;> (try simp only [h])) | ((fail_if_success (with_reducible first | refine s1 ?_ | refine s2 ?_ | refine s3 ?_ | refine s4 ?_ | refine s5 ?_ | refine s6 ?_ | refine s7 ?_ | refine s8 ?_ | refine s9 ?_)); simp (disch := omega) only [↓LD, LU, LS, LT, loadA_rf, ↓reduceIte, reduceCtorEq, Nat.reduceAdd, Nat.reduceMul, Nat.reduceSub, Nat.reduceLeDiff, Nat.reduceLT, Nat.reduceEqDiff, Int.reduceNeg, Int.reduceLT, Int.reduceLE, Int.reduceEq, Int.reduceToNat, List.append_nil]) | ((with_reducible refine And.intro ?_ ?_); omega) | ((fail_if_success (with_reducible first | refine s1 ?_ | refine s2 ?_ | refine s3 ?_ | refine s4 ?_ | refine s5 ?_ | refine s6 ?_ | refine s7 ?_ | refine s8 ?_ | refine s9 ?_)); simp only [D.int, D.bool]))
      refine HS.loopG [5, 6] (fun _ : Unit => ⟨frm 53 [(5, .f (.v (.slice none 0 0))), (6, .f (.v (.slice none 0 0)))], [], []⟩) (fun _ => True) (fun _ => 0) () (by kernel_rfl) trivial ?_
      rintro _ _
      repeat' (first | (with_reducible first | refine r1 ?_ | refine rK fun K hK => ?_ | refine wpS_app fun K hK => ?_ | (refine hK _ ?_; clear hK K) | refine rL fun K hK => ?_) | ((with_reducible refine And.intro (Chk.mk' ?_) ?_); kernel_rfl) | ((with_reducible refine HS.cond1 ?_ ?_); rfl) | ((with_reducible refine HS.cond0 ?_ ?_); rfl) | ((with_reducible apply HS.condB) <;> first | rfl | (with_reducible intro h)) | (with_reducible first | refine r2 ?_ | refine r3 ?_ | refine r4 ?_ | refine r5 ?_ | refine r6 ?_ | refine r7 ?_ | refine r8 ?_ | refine r9 ?_ | refine rA ?_ | refine rB ?_ | refine rC ?_ | refine rD ?_) | ((with_reducible refine blockQ_miss ?_ ?_); rfl) | (with_reducible refine Two.mk' (fun h => ?_) (fun h => ?_) <;> try (exfalso; omega)) | ((with_reducible refine Bsel.mk' (fun h => ?_) (fun h => ?_)) <;> (try simp only [h])) | ((fail_if_success (with_reducible first | refine s1 ?_ | refine s2 ?_ | refine s3 ?_ | refine s4 ?_ | refine s5 ?_ | refine s6 ?_ | refine s7 ?_ | refine s8 ?_ | refine s9 ?_)); simp (disch := omega) only [↓LD, LU, LS, LT, loadA_rf, ↓reduceIte, reduceCtorEq, Nat.reduceAdd, Nat.reduceMul, Nat.reduceSub, Nat.reduceLeDiff, Nat.reduceLT, Nat.reduceEqDiff, Int.reduceNeg, Int.reduceLT, Int.reduceLE, Int.reduceEq, Int.reduceToNat]) | ((with_reducible refine And.intro ?_ ?_); omega) | ((fail_if_success (with_reducible first | refine s1 ?_ | refine s2 ?_ | refine s3 ?_ | refine s4 ?_ | refine s5 ?_ | refine s6 ?_ | refine s7 ?_ | refine s8 ?_ | refine s9 ?_)); simp only [D.int, D.bool]))
      refine callW_self c_int_Sort0 ?_
      rintro _ _ ⟨rfl, rfl⟩
      repeat' (first | (with_reducible first | refine r1 ?_ | refine rK fun K hK => ?_ | refine wpS_app fun K hK => ?_ | (refine hK _ ?_; clear hK K) | refine rL fun K hK => ?_) | ((with_reducible refine And.intro (Chk.mk' ?_) ?_); kernel_rfl) | ((with_reducible refine HS.cond1 ?_ ?_); rfl) | ((with_reducible refine HS.cond0 ?_ ?_); rfl) | ((with_reducible apply HS.condB) <;> first | rfl | (with_reducible intro h)) | (with_reducible first | refine r2 ?_ | refine r3 ?_ | refine r4 ?_ | refine r5 ?_ | refine r6 ?_ | refine r7 ?_ | refine r8 ?_ | refine r9 ?_ | refine rA ?_ | refine rB ?_ | refine rC ?_ | refine rD ?_) | ((with_reducible refine blockQ_miss ?_ ?_); rfl) | (with_reducible refine Two.mk' (fun h => ?_) (fun h => ?_) <;> try (exfalso; omega)) | ((with_reducible refine Bsel.mk' (fun h => ?_) (fun h => ?_)) <;> (try simp only [h])) | ((fail_if_success (with_reducible first | refine s1 ?_ | refine s2 ?_ | refine s3 ?_ | refine s4 ?_ | refine s5 ?_ | refine s6 ?_ | refine s7 ?_ | refine s8 ?_ | refine s9 ?_)); simp (disch := omega) only [↓LD, LU, LS, LT, loadA_rf, ↓reduceIte, reduceCtorEq, Nat.reduceAdd, Nat.reduceMul, Nat.reduceSub, Nat.reduceLeDiff, Nat.reduceLT, Nat.reduceEqDiff, Int.reduceNeg, Int.reduceLT, Int.reduceLE, Int.reduceEq, Int.reduceToNat]) | ((with_reducible refine And.intro ?_ ?_); omega) | ((fail_if_success (with_reducible first | refine s1 ?_ | refine s2 ?_ | refine s3 ?_ | refine s4 ?_ | refine s5 ?_ | refine s6 ?_ | refine s7 ?_ | refine s8 ?_ | refine s9 ?_)); simp only [D.int, D.bool]))
      exact end1 rfl rfl (by kernel_rfl) .nil ⟨⟨[], rfl, hA.ends hc ⟨hn0, hn1⟩⟩, rfl⟩
    · repeat' (first | (with_reducible first | refine r1 ?_ | refine rK fun K hK => ?_ | refine wpS_app fun K hK => ?_ | (refine hK _ ?_; clear hK K) | refine rL fun K hK => ?_) | ((with_reducible refine And.intro (Chk.mk' ?_) ?_); kernel_rfl) | ((with_reducible refine HS.cond1 ?_ ?_); rfl) | ((with_reducible refine HS.cond0 ?_ ?_); rfl) | ((with_reducible apply HS.condB) <;> first | rfl | (with_reducible intro h)) | (with_reducible first | refine r2 ?_ | refine r3 ?_ | refine r4 ?_ | refine r5 ?_ | refine r6 ?_ | refine r7 ?_ | refine r8 ?_ | refine r9 ?_ | refine rA ?_ | refine rB ?_ | refine rC ?_ | refine rD ?_) | ((with_reducible refine blockQ_miss ?_ ?_); rfl) | (with_reducible refine Two.mk' (fun h => ?_) (fun h => ?_) <;> try (exfalso; omega)) | ((with_reducible refine Bsel.mk' (fun h => ?_) (fun h => ?_)) <;> (try simp only [h])) | ((fail_if_success (with_reducible first | refine s1 ?_ | refine s2 ?_ | refine s3 ?_ | refine s4 ?_ | refine s5 ?_ | refine s6 ?_ | refine s7 ?_ | refine s8 ?_ | refine s9 ?_)); simp (disch := omega) only [↓LD, LU, LS, LT, loadA_rf, ↓reduceIte, reduceCtorEq, Nat.reduceAdd, Nat.reduceMul, Nat.reduceSub, Nat.reduceLeDiff, Nat.reduceLT, Nat.reduceEqDiff, Int.reduceNeg, Int.reduceLT, Int.reduceLE, Int.reduceEq, Int.reduceToNat, List.append_nil]) | ((with_reducible refine And.intro ?_ ?_); omega) | ((fail_if_success (with_reducible first | refine s1 ?_ | refine s2 ?_ | refine s3 ?_ | refine s4 ?_ | refine s5 ?_ | refine s6 ?_ | refine s7 ?_ | refine s8 ?_ | refine s9 ?_)); simp only [D.int, D.bool]))
      refine HS.loopG [0, 5, 6] (fun x : List Int × Nat × Nat × List Int => ⟨frm 53 [(0, .f (fG ds)), (5, (outQ x.1 x.2.1 x.2.2.1 x.2.2.2).1), (6, (outQ x.1 x.2.1 x.2.2.1 x.2.2.2).2.1)], (outQ x.1 x.2.1 x.2.2.1 x.2.2.2).2.2, []⟩)
        (fun x => x.2.2.2.length = x.2.1 + x.2.2.1 ∧ AhI ds node (x.2.2.2.drop x.2.1) x.1) (fun x => (8 - x.1.length) * 9 + x.2.2.1) ([], 0, (gt ds node.toNat).ns.length, (gt ds node.toNat).ns) (by kernel_rfl) ⟨by simp, hA⟩ ?_
      rintro ⟨out, off, k, xs⟩ ⟨hx, hI⟩
      dsimp only at hx hI
      have hol := hI.len
      have hbd := hI.bound
      rw [List.length_drop] at hbd
      rcases k with _ | k
      · rw [List.drop_of_length_le (by omega)] at hI
        have hE := hI.ends hc ⟨hn0, hn1⟩
        rcases out with _ | ⟨a, l⟩
        · repeat' (first | (with_reducible first | refine r1 ?_ | refine rK fun K hK => ?_ | refine wpS_app fun K hK => ?_ | (refine hK _ ?_; clear hK K) | refine rL fun K hK => ?_) | ((with_reducible refine And.intro (Chk.mk' ?_) ?_); kernel_rfl) | ((with_reducible refine HS.cond1 ?_ ?_); rfl) | ((with_reducible refine HS.cond0 ?_ ?_); rfl) | ((with_reducible apply HS.condB) <;> first | rfl | (with_reducible intro h)) | (with_reducible first | refine r2 ?_ | refine r3 ?_ | refine r4 ?_ | refine r5 ?_ | refine r6 ?_ | refine r7 ?_ | refine r8 ?_ | refine r9 ?_ | refine rA ?_ | refine rB ?_ | refine rC ?_ | refine rD ?_) | ((with_reducible refine blockQ_miss ?_ ?_); rfl) | (with_reducible refine Two.mk' (fun h => ?_) (fun h => ?_) <;> try (exfalso; omega)) | ((with_reducible refine Bsel.mk' (fun h => ?_) (fun h => ?_)) <;> (try simp only [h])) | ((fail_if_success (with_reducible first | refine s1 ?_ | refine s2 ?_ | refine s3 ?_ | refine s4 ?_ | refine s5 ?_ | refine s6 ?_ | refine s7 ?_ | refine s8 ?_ | refine s9 ?_)); simp (disch := omega) only [↓LD, LU, LS, LT, loadA_rf, ↓reduceIte, reduceCtorEq, Nat.reduceAdd, Nat.reduceMul, Nat.reduceSub, Nat.reduceLeDiff, Nat.reduceLT, Nat.reduceEqDiff, Int.reduceNeg, Int.reduceLT, Int.reduceLE, Int.reduceEq, Int.reduceToNat, outQ]) | ((with_reducible refine And.intro ?_ ?_); omega) | ((fail_if_success (with_reducible first | refine s1 ?_ | refine s2 ?_ | refine s3 ?_ | refine s4 ?_ | refine s5 ?_ | refine s6 ?_ | refine s7 ?_ | refine s8 ?_ | refine s9 ?_)); simp only [D.int, D.bool]))
          refine callW_emb c_int_Sort0 [] (by kernel_rfl) rfl rfl ?_
          rintro _ _ ⟨rfl, rfl⟩
          repeat' (first | (with_reducible first | refine r1 ?_ | refine rK fun K hK => ?_ | refine wpS_app fun K hK => ?_ | (refine hK _ ?_; clear hK K) | refine rL fun K hK => ?_) | ((with_reducible refine And.intro (Chk.mk' ?_) ?_); kernel_rfl) | ((with_reducible refine HS.cond1 ?_ ?_); rfl) | ((with_reducible refine HS.cond0 ?_ ?_); rfl) | ((with_reducible apply HS.condB) <;> first | rfl | (with_reducible intro h)) | (with_reducible first | refine r2 ?_ | refine r3 ?_ | refine r4 ?_ | refine r5 ?_ | refine r6 ?_ | refine r7 ?_ | refine r8 ?_ | refine r9 ?_ | refine rA ?_ | refine rB ?_ | refine rC ?_ | refine rD ?_) | ((with_reducible refine blockQ_miss ?_ ?_); rfl) | (with_reducible refine Two.mk' (fun h => ?_) (fun h => ?_) <;> try (exfalso; omega)) | ((with_reducible refine Bsel.mk' (fun h => ?_) (fun h => ?_)) <;> (try simp only [h])) | ((fail_if_success (with_reducible first | refine s1 ?_ | refine s2 ?_ | refine s3 ?_ | refine s4 ?_ | refine s5 ?_ | refine s6 ?_ | refine s7 ?_ | refine s8 ?_ | refine s9 ?_)); simp (disch := omega) only [↓LD, LU, LS, LT, loadA_rf, ↓reduceIte, reduceCtorEq, Nat.reduceAdd, Nat.reduceMul, Nat.reduceSub, Nat.reduceLeDiff, Nat.reduceLT, Nat.reduceEqDiff, Int.reduceNeg, Int.reduceLT, Int.reduceLE, Int.reduceEq, Int.reduceToNat, List.append_nil]) | ((with_reducible refine And.intro ?_ ?_); omega) | ((fail_if_success (with_reducible first | refine s1 ?_ | refine s2 ?_ | refine s3 ?_ | refine s4 ?_ | refine s5 ?_ | refine s6 ?_ | refine s7 ?_ | refine s8 ?_ | refine s9 ?_)); simp only [D.int, D.bool]))
          exact end1 rfl rfl (by kernel_rfl) .nil ⟨⟨[], rfl, hE⟩, rfl⟩
        · simp only [List.length_cons] at hol hbd
          repeat' (first | (with_reducible first | refine r1 ?_ | refine rK fun K hK => ?_ | refine wpS_app fun K hK => ?_ | (refine hK _ ?_; clear hK K) | refine rL fun K hK => ?_) | ((with_reducible refine And.intro (Chk.mk' ?_) ?_); kernel_rfl) | ((with_reducible refine HS.cond1 ?_ ?_); rfl) | ((with_reducible refine HS.cond0 ?_ ?_); rfl) | ((with_reducible apply HS.condB) <;> first | rfl | (with_reducible intro h)) | (with_reducible first | refine r2 ?_ | refine r3 ?_ | refine r4 ?_ | refine r5 ?_ | refine r6 ?_ | refine r7 ?_ | refine r8 ?_ | refine r9 ?_ | refine rA ?_ | refine rB ?_ | refine rC ?_ | refine rD ?_) | ((with_reducible refine blockQ_miss ?_ ?_); rfl) | (with_reducible refine Two.mk' (fun h => ?_) (fun h => ?_) <;> try (exfalso; omega)) | ((with_reducible refine Bsel.mk' (fun h => ?_) (fun h => ?_)) <;> (try simp only [h])) | ((fail_if_success (with_reducible first | refine s1 ?_ | refine s2 ?_ | refine s3 ?_ | refine s4 ?_ | refine s5 ?_ | refine s6 ?_ | refine s7 ?_ | refine s8 ?_ | refine s9 ?_)); simp (disch := omega) only [↓LD, LU, LS, LT, loadA_rf, ↓reduceIte, reduceCtorEq, Nat.reduceAdd, Nat.reduceMul, Nat.reduceSub, Nat.reduceLeDiff, Nat.reduceLT, Nat.reduceEqDiff, Int.reduceNeg, Int.reduceLT, Int.reduceLE, Int.reduceEq, Int.reduceToNat, outQ]) | ((with_reducible refine And.intro ?_ ?_); omega) | ((fail_if_success (with_reducible first | refine s1 ?_ | refine s2 ?_ | refine s3 ?_ | refine s4 ?_ | refine s5 ?_ | refine s6 ?_ | refine s7 ?_ | refine s8 ?_ | refine s9 ?_)); simp only [D.int, D.bool]))
          refine callW_emb (c_int_Sort (a :: l) l.length rfl (by simp; omega)) [0] (by kernel_rfl) rfl rfl ?_
          rintro _ _ ⟨rfl, rfl⟩
          repeat' (first | (with_reducible first | refine r1 ?_ | refine rK fun K hK => ?_ | refine wpS_app fun K hK => ?_ | (refine hK _ ?_; clear hK K) | refine rL fun K hK => ?_) | ((with_reducible refine And.intro (Chk.mk' ?_) ?_); kernel_rfl) | ((with_reducible refine HS.cond1 ?_ ?_); rfl) | ((with_reducible refine HS.cond0 ?_ ?_); rfl) | ((with_reducible apply HS.condB) <;> first | rfl | (with_reducible intro h)) | (with_reducible first | refine r2 ?_ | refine r3 ?_ | refine r4 ?_ | refine r5 ?_ | refine r6 ?_ | refine r7 ?_ | refine r8 ?_ | refine r9 ?_ | refine rA ?_ | refine rB ?_ | refine rC ?_ | refine rD ?_) | ((with_reducible refine blockQ_miss ?_ ?_); rfl) | (with_reducible refine Two.mk' (fun h => ?_) (fun h => ?_) <;> try (exfalso; omega)) | ((with_reducible refine Bsel.mk' (fun h => ?_) (fun h => ?_)) <;> (try simp only [h])) | ((fail_if_success (with_reducible first | refine s1 ?_ | refine s2 ?_ | refine s3 ?_ | refine s4 ?_ | refine s5 ?_ | refine s6 ?_ | refine s7 ?_ | refine s8 ?_ | refine s9 ?_)); simp (disch := omega) only [↓LD, LU, LS, LT, loadA_rf, ↓reduceIte, reduceCtorEq, Nat.reduceAdd, Nat.reduceMul, Nat.reduceSub, Nat.reduceLeDiff, Nat.reduceLT, Nat.reduceEqDiff, Int.reduceNeg, Int.reduceLT, Int.reduceLE, Int.reduceEq, Int.reduceToNat, List.append_nil]) | ((with_reducible refine And.intro ?_ ?_); omega) | ((fail_if_success (with_reducible first | refine s1 ?_ | refine s2 ?_ | refine s3 ?_ | refine s4 ?_ | refine s5 ?_ | refine s6 ?_ | refine s7 ?_ | refine s8 ?_ | refine s9 ?_)); simp only [D.int, D.bool]))
          refine end1 rfl rfl (by kernel_rfl) (.sl rfl (fun e => by omega)) ⟨⟨sortL (a :: l), ?_, hE⟩, rfl⟩
          unfold fI
          rw [List.drop_zero, sortL_len]; rfl
      · have hxo : off < xs.length := by omega
        rw [drop_gt hxo] at hI
        have hx0 := (hI.tin (gt xs off) (by simp)).2
        obtain ⟨_, hns8, _⟩ := ns_of hc hx0
        have hnsl := hf.2 _ (gt_mem (l := ds) (k := (gt xs off).toNat) (by omega))
        have hsk := fun h => hI.skip (x := gt xs off) (todo := xs.drop (off + 1)) (out := out) h
        have hmo := fun h => hI.more hc (x := gt xs off) (todo := xs.drop (off + 1)) (out := out) h
        generalize hN : (gt ds (gt xs off).toNat).ns = ns at hns8 hnsl hmo
        have hxl : (xs.drop (off + 1)).length = k := by rw [List.length_drop]; omega
        rcases out with _ | ⟨a, l⟩
        · repeat' (first | (with_reducible first | refine r1 ?_ | refine rK fun K hK => ?_ | refine wpS_app fun K hK => ?_ | (refine hK _ ?_; clear hK K) | refine rL fun K hK => ?_) | ((with_reducible refine And.intro (Chk.mk' ?_) ?_); kernel_rfl) | ((with_reducible refine HS.cond1 ?_ ?_); rfl) | ((with_reducible refine HS.cond0 ?_ ?_); rfl) | ((with_reducible apply HS.condB) <;> first | rfl | (with_reducible intro h)) | (with_reducible first | refine r2 ?_ | refine r3 ?_ | refine r4 ?_ | refine r5 ?_ | refine r6 ?_ | refine r7 ?_ | refine r8 ?_ | refine r9 ?_ | refine rA ?_ | refine rB ?_ | refine rC ?_ | refine rD ?_) | ((with_reducible refine blockQ_miss ?_ ?_); rfl) | (with_reducible refine Two.mk' (fun h => ?_) (fun h => ?_) <;> try (exfalso; omega)) | ((with_reducible refine Bsel.mk' (fun h => ?_) (fun h => ?_)) <;> (try simp only [h])) | ((fail_if_success (with_reducible first | refine s1 ?_ | refine s2 ?_ | refine s3 ?_ | refine s4 ?_ | refine s5 ?_ | refine s6 ?_ | refine s7 ?_ | refine s8 ?_ | refine s9 ?_)); simp (disch := omega) only [↓LD, LU, LS, LT, loadA_rf, ↓reduceIte, reduceCtorEq, Nat.reduceAdd, Nat.reduceMul, Nat.reduceSub, Nat.reduceLeDiff, Nat.reduceLT, Nat.reduceEqDiff, Int.reduceNeg, Int.reduceLT, Int.reduceLE, Int.reduceEq, Int.reduceToNat, outQ, fG, nd_load, nd_cs, nd_at0, nd_at1, nd_at2, -loadA_rf]) | ((with_reducible refine And.intro ?_ ?_); omega) | ((fail_if_success (with_reducible first | refine s1 ?_ | refine s2 ?_ | refine s3 ?_ | refine s4 ?_ | refine s5 ?_ | refine s6 ?_ | refine s7 ?_ | refine s8 ?_ | refine s9 ?_)); simp only [D.int, D.bool]))
          refine callW_peek (c_int_Contains [] (gt xs off) (by simp)) (.cons .nil (.cons .f .nil)) ?_ ?_
          · rintro _ _ ⟨rfl, rfl⟩
            exact ⟨.f .v, by simp⟩
          rintro _ _ ⟨rfl, rfl⟩
          rw [show decide (gt xs off ∈ ([] : List Int)) = false from rfl]
          repeat' (first | (with_reducible first | refine r1 ?_ | refine rK fun K hK => ?_ | refine wpS_app fun K hK => ?_ | (refine hK _ ?_; clear hK K) | refine rL fun K hK => ?_) | ((with_reducible refine And.intro (Chk.mk' ?_) ?_); kernel_rfl) | ((with_reducible refine HS.cond1 ?_ ?_); rfl) | ((with_reducible refine HS.cond0 ?_ ?_); rfl) | ((with_reducible apply HS.condB) <;> first | rfl | (with_reducible intro h)) | (with_reducible first | refine r2 ?_ | refine r3 ?_ | refine r4 ?_ | refine r5 ?_ | refine r6 ?_ | refine r7 ?_ | refine r8 ?_ | refine r9 ?_ | refine rA ?_ | refine rB ?_ | refine rC ?_ | refine rD ?_) | ((with_reducible refine blockQ_miss ?_ ?_); rfl) | (with_reducible refine Two.mk' (fun h => ?_) (fun h => ?_) <;> try (exfalso; omega)) | ((with_reducible refine Bsel.mk' (fun h => ?_) (fun h => ?_)) <;> (try simp only [h])) | ((fail_if_success (with_reducible first | refine s1 ?_ | refine s2 ?_ | refine s3 ?_ | refine s4 ?_ | refine s5 ?_ | refine s6 ?_ | refine s7 ?_ | refine s8 ?_ | refine s9 ?_)); simp (disch := omega) only [↓LD, LU, LS, LT, loadA_rf, ↓reduceIte, reduceCtorEq, Nat.reduceAdd, Nat.reduceMul, Nat.reduceSub, Nat.reduceLeDiff, Nat.reduceLT, Nat.reduceEqDiff, Int.reduceNeg, Int.reduceLT, Int.reduceLE, Int.reduceEq, Int.reduceToNat, outQ, fG, nd_load, nd_cs, nd_at0, nd_at1, nd_at2, -loadA_rf, hN, Nat.add_sub_cancel, List.append_nil, List.map_nil, drop_app_i, fI]) | ((with_reducible refine And.intro ?_ ?_); omega) | ((fail_if_success (with_reducible first | refine s1 ?_ | refine s2 ?_ | refine s3 ?_ | refine s4 ?_ | refine s5 ?_ | refine s6 ?_ | refine s7 ?_ | refine s8 ?_ | refine s9 ?_)); simp only [D.int, D.bool]))
          · have hns : ns = [] := List.eq_nil_of_length_eq_zero (by assumption)
            have hm := hmo (by simp)
            rw [hns, List.append_nil] at hm
            exact Next.mk ([gt xs off], off + 1, k, xs) (by kernel_rfl) ⟨by dsimp only; omega, hm⟩ (by dsimp only; simp; omega)
          · have hm := hmo (by simp)
            exact Next.mk ([gt xs off], 0, k + ns.length, xs.drop (off + 1) ++ ns) (by kernel_rfl) ⟨by dsimp only; rw [List.length_append, hxl]; omega, hm⟩ (by dsimp only; simp; omega)
        · simp only [List.length_cons] at hol hbd
          repeat' (first | (with_reducible first | refine r1 ?_ | refine rK fun K hK => ?_ | refine wpS_app fun K hK => ?_ | (refine hK _ ?_; clear hK K) | refine rL fun K hK => ?_) | ((with_reducible refine And.intro (Chk.mk' ?_) ?_); kernel_rfl) | ((with_reducible refine HS.cond1 ?_ ?_); rfl) | ((with_reducible refine HS.cond0 ?_ ?_); rfl) | ((with_reducible apply HS.condB) <;> first | rfl | (with_reducible intro h)) | (with_reducible first | refine r2 ?_ | refine r3 ?_ | refine r4 ?_ | refine r5 ?_ | refine r6 ?_ | refine r7 ?_ | refine r8 ?_ | refine r9 ?_ | refine rA ?_ | refine rB ?_ | refine rC ?_ | refine rD ?_) | ((with_reducible refine blockQ_miss ?_ ?_); rfl) | (with_reducible refine Two.mk' (fun h => ?_) (fun h => ?_) <;> try (exfalso; omega)) | ((with_reducible refine Bsel.mk' (fun h => ?_) (fun h => ?_)) <;> (try simp only [h])) | ((fail_if_success (with_reducible first | refine s1 ?_ | refine s2 ?_ | refine s3 ?_ | refine s4 ?_ | refine s5 ?_ | refine s6 ?_ | refine s7 ?_ | refine s8 ?_ | refine s9 ?_)); simp (disch := omega) only [↓LD, LU, LS, LT, loadA_rf, ↓reduceIte, reduceCtorEq, Nat.reduceAdd, Nat.reduceMul, Nat.reduceSub, Nat.reduceLeDiff, Nat.reduceLT, Nat.reduceEqDiff, Int.reduceNeg, Int.reduceLT, Int.reduceLE, Int.reduceEq, Int.reduceToNat, outQ, fG, nd_load, nd_cs, nd_at0, nd_at1, nd_at2, -loadA_rf]) | ((with_reducible refine And.intro ?_ ?_); omega) | ((fail_if_success (with_reducible first | refine s1 ?_ | refine s2 ?_ | refine s3 ?_ | refine s4 ?_ | refine s5 ?_ | refine s6 ?_ | refine s7 ?_ | refine s8 ?_ | refine s9 ?_)); simp only [D.int, D.bool]))
          refine callW_peek (c_int_Contains (a :: l) (gt xs off) (by simp; omega)) (.cons (.sl rfl (fun e => by omega)) (.cons .f .nil)) ?_ ?_
          · rintro _ _ ⟨rfl, rfl⟩
            exact ⟨.f .v, by simp⟩
          rintro _ _ ⟨rfl, rfl⟩
          by_cases hin : gt xs off ∈ a :: l
          · rw [decide_eq_true hin]
            repeat' (first | (with_reducible first | refine r1 ?_ | refine rK fun K hK => ?_ | refine wpS_app fun K hK => ?_ | (refine hK _ ?_; clear hK K) | refine rL fun K hK => ?_) | ((with_reducible refine And.intro (Chk.mk' ?_) ?_); kernel_rfl) | ((with_reducible refine HS.cond1 ?_ ?_); rfl) | ((with_reducible refine HS.cond0 ?_ ?_); rfl) | ((with_reducible apply HS.condB) <;> first | rfl | (with_reducible intro h)) | (with_reducible first | refine r2 ?_ | refine r3 ?_ | refine r4 ?_ | refine r5 ?_ | refine r6 ?_ | refine r7 ?_ | refine r8 ?_ | refine r9 ?_ | refine rA ?_ | refine rB ?_ | refine rC ?_ | refine rD ?_) | ((with_reducible refine blockQ_miss ?_ ?_); rfl) | (with_reducible refine Two.mk' (fun h => ?_) (fun h => ?_) <;> try (exfalso; omega)) | ((with_reducible refine Bsel.mk' (fun h => ?_) (fun h => ?_)) <;> (try simp only [h])) | ((fail_if_success (with_reducible first | refine s1 ?_ | refine s2 ?_ | refine s3 ?_ | refine s4 ?_ | refine s5 ?_ | refine s6 ?_ | refine s7 ?_ | refine s8 ?_ | refine s9 ?_)); simp (disch := omega) only [↓LD, LU, LS, LT, loadA_rf, ↓reduceIte, reduceCtorEq, Nat.reduceAdd, Nat.reduceMul, Nat.reduceSub, Nat.reduceLeDiff, Nat.reduceLT, Nat.reduceEqDiff, Int.reduceNeg, Int.reduceLT, Int.reduceLE, Int.reduceEq, Int.reduceToNat, outQ, fG, nd_load, nd_cs, nd_at0, nd_at1, nd_at2, -loadA_rf, hN, Nat.add_sub_cancel, List.append_nil, List.map_nil, drop_app_i, fI]) | ((with_reducible refine And.intro ?_ ?_); omega) | ((fail_if_success (with_reducible first | refine s1 ?_ | refine s2 ?_ | refine s3 ?_ | refine s4 ?_ | refine s5 ?_ | refine s6 ?_ | refine s7 ?_ | refine s8 ?_ | refine s9 ?_)); simp only [D.int, D.bool]))
            exact Next.mk (a :: l, off + 1, k, xs) (by kernel_rfl) ⟨by dsimp only; omega, hsk hin⟩ (by dsimp only; omega)
          · rw [decide_eq_false hin]
            repeat' (first | (with_reducible first | refine r1 ?_ | refine rK fun K hK => ?_ | refine wpS_app fun K hK => ?_ | (refine hK _ ?_; clear hK K) | refine rL fun K hK => ?_) | ((with_reducible refine And.intro (Chk.mk' ?_) ?_); kernel_rfl) | ((with_reducible refine HS.cond1 ?_ ?_); rfl) | ((with_reducible refine HS.cond0 ?_ ?_); rfl) | ((with_reducible apply HS.condB) <;> first | rfl | (with_reducible intro h)) | (with_reducible first | refine r2 ?_ | refine r3 ?_ | refine r4 ?_ | refine r5 ?_ | refine r6 ?_ | refine r7 ?_ | refine r8 ?_ | refine r9 ?_ | refine rA ?_ | refine rB ?_ | refine rC ?_ | refine rD ?_) | ((with_reducible refine blockQ_miss ?_ ?_); rfl) | (with_reducible refine Two.mk' (fun h => ?_) (fun h => ?_) <;> try (exfalso; omega)) | ((with_reducible refine Bsel.mk' (fun h => ?_) (fun h => ?_)) <;> (try simp only [h])) | ((fail_if_success (with_reducible first | refine s1 ?_ | refine s2 ?_ | refine s3 ?_ | refine s4 ?_ | refine s5 ?_ | refine s6 ?_ | refine s7 ?_ | refine s8 ?_ | refine s9 ?_)); simp (disch := omega) only [↓LD, LU, LS, LT, loadA_rf, ↓reduceIte, reduceCtorEq, Nat.reduceAdd, Nat.reduceMul, Nat.reduceSub, Nat.reduceLeDiff, Nat.reduceLT, Nat.reduceEqDiff, Int.reduceNeg, Int.reduceLT, Int.reduceLE, Int.reduceEq, Int.reduceToNat, outQ, fG, nd_load, nd_cs, nd_at0, nd_at1, nd_at2, -loadA_rf, hN, Nat.add_sub_cancel, List.append_nil, List.map_nil, drop_app_i, fI]) | ((with_reducible refine And.intro ?_ ?_); omega) | ((fail_if_success (with_reducible first | refine s1 ?_ | refine s2 ?_ | refine s3 ?_ | refine s4 ?_ | refine s5 ?_ | refine s6 ?_ | refine s7 ?_ | refine s8 ?_ | refine s9 ?_)); simp only [D.int, D.bool]))
            · have hns : ns = [] := List.eq_nil_of_length_eq_zero (by assumption)
              have hm := hmo hin
              have hml := hm.len
              simp only [List.length_append, List.length_cons, List.length_nil] at hml
              rw [hns, List.append_nil] at hm
              exact Next.mk (a :: (l ++ [gt xs off]), off + 1, k, xs) (by simp only [outQ, List.length_append, List.length_singleton]; kernel_rfl) ⟨by dsimp only; omega, hm⟩ (by dsimp only; simp only [List.length_append, List.length_cons, List.length_nil]; omega)
            · have hm := hmo hin
              have hml := hm.len
              simp only [List.length_append, List.length_cons, List.length_nil] at hml
              exact Next.mk (a :: (l ++ [gt xs off]), 0, k + ns.length, xs.drop (off + 1) ++ ns) (by simp only [outQ, List.length_append, List.length_singleton]; kernel_rfl) ⟨by dsimp only; rw [List.length_append, hxl]; omega, hm⟩ (by dsimp only; simp only [List.length_append, List.length_cons, List.length_nil]; omega)
  · repeat' (first | (with_reducible first | refine r1 ?_ | refine rK fun K hK => ?_ | refine wpS_app fun K hK => ?_ | (refine hK _ ?_; clear hK K) | refine rL fun K hK => ?_) | ((with_reducible refine And.intro (Chk.mk' ?_) ?_); kernel_rfl) | ((with_reducible refine HS.cond1 ?_ ?_); rfl) | ((with_reducible refine HS.cond0 ?_ ?_); rfl) | ((with_reducible apply HS.condB) <;> first | rfl | (with_reducible intro h)) | (with_reducible first | refine r2 ?_ | refine r3 ?_ | refine r4 ?_ | refine r5 ?_ | refine r6 ?_ | refine r7 ?_ | refine r8 ?_ | refine r9 ?_ | refine rA ?_ | refine rB ?_ | refine rC ?_ | refine rD ?_) | ((with_reducible refine blockQ_miss ?_ ?_); rfl) | (with_reducible refine Two.mk' (fun h => ?_) (fun h => ?_) <;> try (exfalso; omega)) | ((with_reducible refine Bsel.mk' (fun h => ?_) (fun h => ?_)) <;> (try simp only [h])) | ((fail_if_success (with_reducible first | refine s1 ?_ | refine s2 ?_ | refine s3 ?_ | refine s4 ?_ | refine s5 ?_ | refine s6 ?_ | refine s7 ?_ | refine s8 ?_ | refine s9 ?_)); simp (disch := omega) only [↓LD, LU, LS, LT, loadA_rf, ↓reduceIte, reduceCtorEq, Nat.reduceAdd, Nat.reduceMul, Nat.reduceSub, Nat.reduceLeDiff, Nat.reduceLT, Nat.reduceEqDiff, Int.reduceNeg, Int.reduceLT, Int.reduceLE, Int.reduceEq, Int.reduceToNat, fG, List.append_nil]) | ((with_reducible refine And.intro ?_ ?_); omega) | ((fail_if_success (with_reducible first | refine s1 ?_ | refine s2 ?_ | refine s3 ?_ | refine s4 ?_ | refine s5 ?_ | refine s6 ?_ | refine s7 ?_ | refine s8 ?_ | refine s9 ?_)); simp only [D.int, D.bool]))
    all_goals exact end1 rfl rfl (by kernel_rfl) .nil ⟨⟨[], rfl, by rw [AheadP, if_neg hok]⟩, rfl⟩
end Go.Proofs.Ytjbkckhpoicaeaa.Mir
