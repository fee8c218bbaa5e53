/- Texts laid into one file: Rd5D, MirClone, DiskC, DiskD, DiskE, MirSortG. -/
import Derived.Test.YtjbkckhpoicaeaaDp07
import Derived.Ground.SlmcProg
import Derived.Shelf.SlMaps.Clone
import Derived.Shelf.SlIterI.Nil
import Derived.Shelf.SlIter.Nil
import Derived.Shelf.SortM.Plain
import Derived.Shelf.SortM.SortNone

set_option linter.unusedVariables false
set_option linter.unusedSimpArgs false
/- The document's disk: Remove, Files, Crash. -/
namespace Go.Proofs.Ytjbkckhpoicaeaa.Mir
open Go Go.RowKit
set_option linter.unusedVariables false
set_option linter.unusedSimpArgs false
set_option maxHeartbeats 2000000

def psR (w : List Bs) (ps : List Op) (d : Bool) (k : Int) : List Op := if d = true ∨ rdL w ps d k = [] then ps else ps ++ [⟨k, true, []⟩]
set_option maxRecDepth 100000 in
theorem c_rd_Remove (w : List Bs) (ps : List Op) (fuse : Int) (dead : Bool) (works k : Int) (hok : RdOk w ps) (hk : 0 ≤ k) (hf : -1 ≤ fuse ∧ fuse ≤ 1000000) (hw : 0 ≤ works ∧ works ≤ 1000000) :
    Con Try.prog 22 [.pt 0 0, D.int k] [rkB w ps fuse dead works] fun r H' => r = D.int (if deadN' fuse dead = true then 14 else 0) ∧ H' = [rkB w (psR w ps (deadN' fuse dead) k) (fuseN fuse dead) (deadN' fuse dead) (worksN fuse dead works)] := by
  have hn := hok.num
  refine Con.walk good fn_rd_Remove (by simp) ?_
  unfold s_rd_Remove
  simp only [argsE, List.length_cons, List.length_nil, Nat.reduceAdd]
  repeat' (first | (with_reducible first | refine Wa.h ?_ | refine Ws.h ?_ | refine Wb.h fun K hK => ?_ | (refine hK _ ?_; clear hK K)) | ((with_reducible refine kQ ?_ ?_); kernel_rfl) | ((with_reducible refine k1 ?_ ?_); rfl) | ((with_reducible refine k0 ?_ ?_); rfl) | ((with_reducible apply kB) <;> first | rfl | intro h) | ((with_reducible refine kM ?_ ?_); rfl) | (with_reducible refine Wt.h (fun h => ?_) (fun h => ?_)) <;> try (exfalso; omega) | (with_reducible refine Wu.h (fun h => ?_) (fun h => ?_)) <;> try simp only [h] | ((fail_if_success with_reducible refine Wz.h ?_); simp (disch := omega) only [↓LD, LU, LS, LT, loadA_rf, ↓reduceIte, reduceCtorEq, Nat.reduceAdd, Nat.reduceMul, Nat.reduceSub, Nat.reduceLeDiff, Nat.reduceLT, Nat.reduceEqDiff, Int.reduceNeg, Int.reduceLT, Int.reduceLE, Int.reduceEq, Int.reduceToNat]) | ((with_reducible refine And.intro ?_ ?_); omega) | ((fail_if_success with_reducible refine Wz.h ?_); simp only [D.int, D.bool]))
  refine callW_emb (c_rd_works w ps fuse dead works hf hw) [0] (by kernel_rfl) rfl rfl ?_
  rintro _ _ ⟨rfl, rfl⟩
  cases hd : deadN' fuse dead with
  | true =>
    repeat' (first | (with_reducible first | refine Wa.h ?_ | refine Ws.h ?_ | refine Wb.h fun K hK => ?_ | (refine hK _ ?_; clear hK K)) | ((with_reducible refine kQ ?_ ?_); kernel_rfl) | ((with_reducible refine k1 ?_ ?_); rfl) | ((with_reducible refine k0 ?_ ?_); rfl) | ((with_reducible apply kB) <;> first | rfl | intro h) | ((with_reducible refine kM ?_ ?_); rfl) | (with_reducible refine Wt.h (fun h => ?_) (fun h => ?_)) <;> try (exfalso; omega) | (with_reducible refine Wu.h (fun h => ?_) (fun h => ?_)) <;> try simp only [h] | ((fail_if_success with_reducible refine Wz.h ?_); simp (disch := omega) only [↓LD, LU, LS, LT, loadA_rf, ↓reduceIte, reduceCtorEq, Nat.reduceAdd, Nat.reduceMul, Nat.reduceSub, Nat.reduceLeDiff, Nat.reduceLT, Nat.reduceEqDiff, Int.reduceNeg, Int.reduceLT, Int.reduceLE, Int.reduceEq, Int.reduceToNat, ren_rk]) | ((with_reducible refine And.intro ?_ ?_); omega) | ((fail_if_success with_reducible refine Wz.h ?_); simp only [D.int, D.bool]))
    exact endA rfl rfl ⟨by rw [hd]; rfl, by rw [psR, if_pos (.inl hd), hd]⟩
  | false =>
    repeat' (first | (with_reducible first | refine Wa.h ?_ | refine Wb.h fun K hK => ?_ | (refine hK _ ?_; clear hK K)) | ((with_reducible refine kQ ?_ ?_); kernel_rfl) | ((with_reducible refine k1 ?_ ?_); rfl) | ((with_reducible refine k0 ?_ ?_); rfl) | ((with_reducible apply kB) <;> first | rfl | intro h) | ((with_reducible refine kM ?_ ?_); rfl) | (with_reducible refine Wt.h (fun h => ?_) (fun h => ?_)) <;> try (exfalso; omega) | (with_reducible refine Wu.h (fun h => ?_) (fun h => ?_)) <;> try simp only [h] | ((fail_if_success with_reducible refine Wz.h ?_); simp (disch := omega) only [↓LD, LU, LS, LT, loadA_rf, ↓reduceIte, reduceCtorEq, Nat.reduceAdd, Nat.reduceMul, Nat.reduceSub, Nat.reduceLeDiff, Nat.reduceLT, Nat.reduceEqDiff, Int.reduceNeg, Int.reduceLT, Int.reduceLE, Int.reduceEq, Int.reduceToNat, ren_rk]) | ((with_reducible refine And.intro ?_ ?_); omega) | ((fail_if_success with_reducible refine Wz.h ?_); simp only [D.int, D.bool]))
    refine HS.seq ?_
    refine HS.cutn (fun q : List Op => ⟨frm 28 [(0, .pt 0 0)], [rkB w q (fuseN fuse dead) false (worksN fuse dead works)], []⟩) (fun q => q = psR w ps false k) ?_ ?_
    · repeat' (first | (with_reducible first | refine Wa.h ?_ | refine Ws.h ?_ | refine Wb.h fun K hK => ?_ | (refine hK _ ?_; clear hK K)) | ((with_reducible refine kQ ?_ ?_); kernel_rfl) | ((with_reducible refine k1 ?_ ?_); rfl) | ((with_reducible refine k0 ?_ ?_); rfl) | ((with_reducible apply kB) <;> first | rfl | intro h) | ((with_reducible refine kM ?_ ?_); rfl) | (with_reducible refine Wt.h (fun h => ?_) (fun h => ?_)) <;> try (exfalso; omega) | (with_reducible refine Wu.h (fun h => ?_) (fun h => ?_)) <;> try simp only [h] | ((fail_if_success with_reducible refine Wz.h ?_); simp (disch := omega) only [↓LD, LU, LS, LT, loadA_rf, ↓reduceIte, reduceCtorEq, Nat.reduceAdd, Nat.reduceMul, Nat.reduceSub, Nat.reduceLeDiff, Nat.reduceLT, Nat.reduceEqDiff, Int.reduceNeg, Int.reduceLT, Int.reduceLE, Int.reduceEq, Int.reduceToNat]) | ((with_reducible refine And.intro ?_ ?_); omega) | ((fail_if_success with_reducible refine Wz.h ?_); simp only [D.int, D.bool]))
      refine callW_emb (c_rd_Read w ps (fuseN fuse dead) false (worksN fuse dead works) k hok) [0] (by kernel_rfl) rfl rfl ?_
      by_cases h0 : rdL w ps false k = []
      · have e0 : psR w ps false k = ps := by rw [psR, if_pos (.inr h0)]
        rintro _ _ ⟨rfl | ⟨_, rfl⟩, rfl⟩
        · rw [h0]
          repeat' (first | (with_reducible first | refine Wa.h ?_ | refine Ws.h ?_ | refine Wb.h fun K hK => ?_ | (refine hK _ ?_; clear hK K)) | ((with_reducible refine kQ ?_ ?_); kernel_rfl) | ((with_reducible refine k1 ?_ ?_); rfl) | ((with_reducible refine k0 ?_ ?_); rfl) | ((with_reducible apply kB) <;> first | rfl | intro h) | ((with_reducible refine kM ?_ ?_); rfl) | (with_reducible refine Wt.h (fun h => ?_) (fun h => ?_)) <;> try (exfalso; omega) | (with_reducible refine Wu.h (fun h => ?_) (fun h => ?_)) <;> try simp only [h] | ((fail_if_success with_reducible refine Wz.h ?_); simp (disch := omega) only [↓LD, LU, LS, LT, loadA_rf, ↓reduceIte, reduceCtorEq, Nat.reduceAdd, Nat.reduceMul, Nat.reduceSub, Nat.reduceLeDiff, Nat.reduceLT, Nat.reduceEqDiff, Int.reduceNeg, Int.reduceLT, Int.reduceLE, Int.reduceEq, Int.reduceToNat, ren_rk, fY]) | ((with_reducible refine And.intro ?_ ?_); omega) | ((fail_if_success with_reducible refine Wz.h ?_); simp only [D.int, D.bool]))
          exact OutN.mk [0] ps (by kernel_rfl) e0.symm
        · repeat' (first | (with_reducible first | refine Wa.h ?_ | refine Ws.h ?_ | refine Wb.h fun K hK => ?_ | (refine hK _ ?_; clear hK K)) | ((with_reducible refine kQ ?_ ?_); kernel_rfl) | ((with_reducible refine k1 ?_ ?_); rfl) | ((with_reducible refine k0 ?_ ?_); rfl) | ((with_reducible apply kB) <;> first | rfl | intro h) | ((with_reducible refine kM ?_ ?_); rfl) | (with_reducible refine Wt.h (fun h => ?_) (fun h => ?_)) <;> try (exfalso; omega) | (with_reducible refine Wu.h (fun h => ?_) (fun h => ?_)) <;> try simp only [h] | ((fail_if_success with_reducible refine Wz.h ?_); simp (disch := omega) only [↓LD, LU, LS, LT, loadA_rf, ↓reduceIte, reduceCtorEq, Nat.reduceAdd, Nat.reduceMul, Nat.reduceSub, Nat.reduceLeDiff, Nat.reduceLT, Nat.reduceEqDiff, Int.reduceNeg, Int.reduceLT, Int.reduceLE, Int.reduceEq, Int.reduceToNat, ren_rk, fY]) | ((with_reducible refine And.intro ?_ ?_); omega) | ((fail_if_success with_reducible refine Wz.h ?_); simp only [D.int, D.bool]))
          exact OutN.mk [0] ps (by kernel_rfl) e0.symm
      have e0 : psR w ps false k = ps ++ [⟨k, true, []⟩] := by rw [psR, if_neg (by simp [h0])]
      have hl0 : (rdL w ps false k).length ≠ 0 := fun e => h0 (List.eq_nil_of_length_eq_zero e)
      have hl' : ps.length + 1 = (ps ++ [(⟨k, true, []⟩ : Op)]).length := by simp
      have h3 := View.nild (P := Try.prog) (n0 := 1) (ts := frm 28 [(0, .pt 0 0)]) (H := [.box 57 [.f (fK w), .sl 1 0 (ps ++ [(⟨k, true, []⟩ : Op)]).length, D.int (fuseN fuse dead), D.bool false, D.int (worksN fuse dead works)], .data 87 (ps.flatMap Op.cs ++ [.v (.int .i64 k), .v (.bool true), nilF])]) (dr := []) (r := 1) (i := ps.length * 3 + 2) rfl
        (by rw [List.getElem?_append_right (by rw [flat_len' Op.cs_len]; omega), flat_len' Op.cs_len, show ps.length * 3 + 2 - ps.length * 3 = 2 by omega]; rfl)
      rw [show (ps.flatMap Op.cs ++ [F.v (.int .i64 k), .v (.bool true), nilF]).set (ps.length * 3 + 2) (.s [] 0) = (ps ++ [(⟨k, true, []⟩ : Op)]).flatMap Op.cs by
        rw [List.set_append_right _ _ (by rw [flat_len' Op.cs_len]; omega), flat_len' Op.cs_len, show ps.length * 3 + 2 - ps.length * 3 = 2 by omega, List.flatMap_append]; rfl] at h3
      have h1 := h3.trans (View.fixb (P := Try.prog) (n0 := 1) (ts := frm 28 [(0, .pt 0 0)]) (H := [.box 57 [.f (fK w), .sl 1 0 (ps ++ [(⟨k, true, []⟩ : Op)]).length, D.int (fuseN fuse dead), D.bool false, D.int (worksN fuse dead works)], .data 87 ((ps ++ [(⟨k, true, []⟩ : Op)]).flatMap Op.cs)]) (dr := []) 0 1 1 (b := 40) (z := [.int .i64 0, .bool false, .slice none 0 0]) rfl rfl rfl (by kernel_rfl) (by simp) (by rw [flat_len' Op.cs_len]))
      have h2 := h1.trans (View.sweep (keep := [0]) (s' := ⟨frm 28 [(0, .pt 0 0)], [rkB w (ps ++ [(⟨k, true, []⟩ : Op)]) (fuseN fuse dead) false (worksN fuse dead works)], []⟩) (by kernel_rfl))
      rintro _ _ ⟨rfl | ⟨h00, _⟩, rfl⟩
      rotate_left
      · exact absurd h00 h0
      repeat' (first | (with_reducible first | refine Wa.h ?_ | refine Ws.h ?_ | refine Wb.h fun K hK => ?_ | (refine hK _ ?_; clear hK K)) | ((with_reducible refine kQ ?_ ?_); kernel_rfl) | ((with_reducible refine k1 ?_ ?_); rfl) | ((with_reducible refine k0 ?_ ?_); rfl) | ((with_reducible apply kB) <;> first | rfl | intro h) | ((with_reducible refine kM ?_ ?_); rfl) | (with_reducible refine Wt.h (fun h => ?_) (fun h => ?_)) <;> try (exfalso; omega) | (with_reducible refine Wu.h (fun h => ?_) (fun h => ?_)) <;> try simp only [h] | ((fail_if_success with_reducible refine Wz.h ?_); simp (disch := omega) only [↓LD, LU, LS, LT, loadA_rf, ↓reduceIte, reduceCtorEq, Nat.reduceAdd, Nat.reduceMul, Nat.reduceSub, Nat.reduceLeDiff, Nat.reduceLT, Nat.reduceEqDiff, Int.reduceNeg, Int.reduceLT, Int.reduceLE, Int.reduceEq, Int.reduceToNat, ren_rk, rkB, fP, fY, List.append_nil, flat_len' Op.cs_len]) | ((with_reducible refine And.intro ?_ ?_); omega) | ((fail_if_success with_reducible refine Wz.h ?_); simp only [D.int, D.bool]))
      · have e : ps = [] := List.eq_nil_of_length_eq_zero (by assumption)
        subst e
        exact OutN.via [0] ([] ++ [(⟨k, true, []⟩ : Op)]) (by kernel_rfl) h2 e0.symm
      · rw [hl']
        exact OutN.via [0] (ps ++ [(⟨k, true, []⟩ : Op)]) (by kernel_rfl) h2 e0.symm
    rintro q hq s' hv
    subst hq
    refine thenQ_n ?_
    refine HS.view hv ?_
    repeat' (first | (with_reducible first | refine Wa.h ?_ | refine Ws.h ?_ | refine Wb.h fun K hK => ?_ | (refine hK _ ?_; clear hK K)) | ((with_reducible refine kQ ?_ ?_); kernel_rfl) | ((with_reducible refine k1 ?_ ?_); rfl) | ((with_reducible refine k0 ?_ ?_); rfl) | ((with_reducible apply kB) <;> first | rfl | intro h) | ((with_reducible refine kM ?_ ?_); rfl) | (with_reducible refine Wt.h (fun h => ?_) (fun h => ?_)) <;> try (exfalso; omega) | (with_reducible refine Wu.h (fun h => ?_) (fun h => ?_)) <;> try simp only [h] | ((fail_if_success with_reducible refine Wz.h ?_); simp (disch := omega) only [↓LD, LU, LS, LT, loadA_rf, ↓reduceIte, reduceCtorEq, Nat.reduceAdd, Nat.reduceMul, Nat.reduceSub, Nat.reduceLeDiff, Nat.reduceLT, Nat.reduceEqDiff, Int.reduceNeg, Int.reduceLT, Int.reduceLE, Int.reduceEq, Int.reduceToNat]) | ((with_reducible refine And.intro ?_ ?_); omega) | ((fail_if_success with_reducible refine Wz.h ?_); simp only [D.int, D.bool]))
    exact endA rfl rfl ⟨by rw [hd]; rfl, by rw [hd]⟩
def flF : Nat → List Bs → List Int
  | _, [] => []
  | k, b :: l => if b = [] then flF (k + 1) l else (k : Int) :: flF (k + 1) l
def flD (w : List Bs) (ps : List Op) (dead : Bool) : List Int := if dead = true then [] else flF 0 (nowL w ps)
def outF (x : Row) (n : Nat) : List Int → D × List Row
  | [] => (.f nilF, [x])
  | a :: l => (.sl 1 0 n, [x, .data 3 ((a :: l).map iF)])
theorem flF_len : ∀ (k : Nat) (l : List Bs), (flF k l).length ≤ l.length
  | _, [] => Nat.le_refl _
  | k, b :: l => by
    have := flF_len (k + 1) l
    rw [flF]
    split <;> simp <;> omega
theorem c_rd_Files (w : List Bs) (ps : List Op) (fuse : Int) (dead : Bool) (works : Int) (hok : RdOk w ps) :
    Con Try.prog 32 [.pt 0 0] [rkB w ps fuse dead works] fun r H' => r = .f (fI (flD w ps dead)) ∧ H' = [rkB w ps fuse dead works] := by
  have hnl := hok.now.1
  cases dead with
  | true =>
    refine Con.walk good fn_rd_Files (by simp) ?_
    unfold s_rd_Files
    simp only [argsE, List.length_cons, List.length_nil, Nat.reduceAdd]
    repeat' (first | (with_reducible first | refine Wa.h ?_ | refine Ws.h ?_ | refine Wb.h fun K hK => ?_ | (refine hK _ ?_; clear hK K)) | ((with_reducible refine kQ ?_ ?_); kernel_rfl) | ((with_reducible refine k1 ?_ ?_); rfl) | ((with_reducible refine k0 ?_ ?_); rfl) | ((with_reducible apply kB) <;> first | rfl | intro h) | ((with_reducible refine kM ?_ ?_); rfl) | (with_reducible refine Wt.h (fun h => ?_) (fun h => ?_)) <;> try (exfalso; omega) | (with_reducible refine Wu.h (fun h => ?_) (fun h => ?_)) <;> try simp only [h] | ((fail_if_success with_reducible refine Wz.h ?_); simp (disch := omega) only [↓LD, LU, LS, LT, loadA_rf, ↓reduceIte, reduceCtorEq, Nat.reduceAdd, Nat.reduceMul, Nat.reduceSub, Nat.reduceLeDiff, Nat.reduceLT, Nat.reduceEqDiff, Int.reduceNeg, Int.reduceLT, Int.reduceLE, Int.reduceEq, Int.reduceToNat]) | ((with_reducible refine And.intro ?_ ?_); omega) | ((fail_if_success with_reducible refine Wz.h ?_); simp only [D.int, D.bool]))
    refine callW_emb (c_rd_Now w ps fuse true works hok) [0] (by kernel_rfl) rfl rfl ?_
    rintro _ _ ⟨rfl, rfl⟩
    repeat' (first | (with_reducible first | refine Wa.h ?_ | refine Ws.h ?_ | refine Wb.h fun K hK => ?_ | (refine hK _ ?_; clear hK K)) | ((with_reducible refine kQ ?_ ?_); kernel_rfl) | ((with_reducible refine k1 ?_ ?_); rfl) | ((with_reducible refine k0 ?_ ?_); rfl) | ((with_reducible apply kB) <;> first | rfl | intro h) | ((with_reducible refine kM ?_ ?_); rfl) | (with_reducible refine Wt.h (fun h => ?_) (fun h => ?_)) <;> try (exfalso; omega) | (with_reducible refine Wu.h (fun h => ?_) (fun h => ?_)) <;> try simp only [h] | ((fail_if_success with_reducible refine Wz.h ?_); simp (disch := omega) only [↓LD, LU, LS, LT, loadA_rf, ↓reduceIte, reduceCtorEq, Nat.reduceAdd, Nat.reduceMul, Nat.reduceSub, Nat.reduceLeDiff, Nat.reduceLT, Nat.reduceEqDiff, Int.reduceNeg, Int.reduceLT, Int.reduceLE, Int.reduceEq, Int.reduceToNat, ren_rk, fK]) | ((with_reducible refine And.intro ?_ ?_); omega) | ((fail_if_success with_reducible refine Wz.h ?_); simp only [D.int, D.bool]))
    refine HS.loopG [0, 3, 4, 5] (fun _ : Unit => ⟨frm 32 [(0, .pt 0 0), (3, .f nilF), (4, .f (fK (nowL w ps))), (5, D.int 0)], [rkB w ps fuse true works], []⟩) (fun _ => True) (fun _ => 0) () (by kernel_rfl) trivial ?_
    rintro _ _
    repeat' (first | (with_reducible first | refine Wa.h ?_ | refine Ws.h ?_ | refine Wb.h fun K hK => ?_ | (refine hK _ ?_; clear hK K)) | ((with_reducible refine kQ ?_ ?_); kernel_rfl) | ((with_reducible refine k1 ?_ ?_); rfl) | ((with_reducible refine k0 ?_ ?_); rfl) | ((with_reducible apply kB) <;> first | rfl | intro h) | ((with_reducible refine kM ?_ ?_); rfl) | (with_reducible refine Wt.h (fun h => ?_) (fun h => ?_)) <;> try (exfalso; omega) | (with_reducible refine Wu.h (fun h => ?_) (fun h => ?_)) <;> try simp only [h] | ((fail_if_success with_reducible refine Wz.h ?_); simp (disch := omega) only [↓LD, LU, LS, LT, loadA_rf, ↓reduceIte, reduceCtorEq, Nat.reduceAdd, Nat.reduceMul, Nat.reduceSub, Nat.reduceLeDiff, Nat.reduceLT, Nat.reduceEqDiff, Int.reduceNeg, Int.reduceLT, Int.reduceLE, Int.reduceEq, Int.reduceToNat, fK, rkB]) | ((with_reducible refine And.intro ?_ ?_); omega) | ((fail_if_success with_reducible refine Wz.h ?_); simp only [D.int, D.bool]))
    all_goals exact RetS.still rfl (by kernel_rfl) .nil ⟨rfl, rfl⟩
  | false =>
    refine Con.walk good fn_rd_Files (by simp) ?_
    unfold s_rd_Files
    simp only [argsE, List.length_cons, List.length_nil, Nat.reduceAdd]
    repeat' (first | (with_reducible first | refine Wa.h ?_ | refine Ws.h ?_ | refine Wb.h fun K hK => ?_ | (refine hK _ ?_; clear hK K)) | ((with_reducible refine kQ ?_ ?_); kernel_rfl) | ((with_reducible refine k1 ?_ ?_); rfl) | ((with_reducible refine k0 ?_ ?_); rfl) | ((with_reducible apply kB) <;> first | rfl | intro h) | ((with_reducible refine kM ?_ ?_); rfl) | (with_reducible refine Wt.h (fun h => ?_) (fun h => ?_)) <;> try (exfalso; omega) | (with_reducible refine Wu.h (fun h => ?_) (fun h => ?_)) <;> try simp only [h] | ((fail_if_success with_reducible refine Wz.h ?_); simp (disch := omega) only [↓LD, LU, LS, LT, loadA_rf, ↓reduceIte, reduceCtorEq, Nat.reduceAdd, Nat.reduceMul, Nat.reduceSub, Nat.reduceLeDiff, Nat.reduceLT, Nat.reduceEqDiff, Int.reduceNeg, Int.reduceLT, Int.reduceLE, Int.reduceEq, Int.reduceToNat]) | ((with_reducible refine And.intro ?_ ?_); omega) | ((fail_if_success with_reducible refine Wz.h ?_); simp only [D.int, D.bool]))
    refine callW_emb (c_rd_Now w ps fuse false works hok) [0] (by kernel_rfl) rfl rfl ?_
    rintro _ _ ⟨rfl, rfl⟩
    repeat' (first | (with_reducible first | refine Wa.h ?_ | refine Ws.h ?_ | refine Wb.h fun K hK => ?_ | (refine hK _ ?_; clear hK K)) | ((with_reducible refine kQ ?_ ?_); kernel_rfl) | ((with_reducible refine k1 ?_ ?_); rfl) | ((with_reducible refine k0 ?_ ?_); rfl) | ((with_reducible apply kB) <;> first | rfl | intro h) | ((with_reducible refine kM ?_ ?_); rfl) | (with_reducible refine Wt.h (fun h => ?_) (fun h => ?_)) <;> try (exfalso; omega) | (with_reducible refine Wu.h (fun h => ?_) (fun h => ?_)) <;> try simp only [h] | ((fail_if_success with_reducible refine Wz.h ?_); simp (disch := omega) only [↓LD, LU, LS, LT, loadA_rf, ↓reduceIte, reduceCtorEq, Nat.reduceAdd, Nat.reduceMul, Nat.reduceSub, Nat.reduceLeDiff, Nat.reduceLT, Nat.reduceEqDiff, Int.reduceNeg, Int.reduceLT, Int.reduceLE, Int.reduceEq, Int.reduceToNat, ren_rk, fK]) | ((with_reducible refine And.intro ?_ ?_); omega) | ((fail_if_success with_reducible refine Wz.h ?_); simp only [D.int, D.bool]))
    refine HS.loopG [0, 3, 4, 5] (fun x : Nat × Nat × List Int => ⟨frm 32 [(0, .pt 0 0), (3, (outF (rkB w ps fuse false works) x.2.1 x.2.2).1), (4, .f (fK (nowL w ps))), (5, D.int x.1)], (outF (rkB w ps fuse false works) x.2.1 x.2.2).2, []⟩)
      (fun x => x.1 ≤ (nowL w ps).length ∧ x.2.2.length = x.2.1 ∧ x.2.1 ≤ x.1 ∧ flF 0 (nowL w ps) = x.2.2 ++ flF x.1 ((nowL w ps).drop x.1)) (fun x => (nowL w ps).length - x.1) (0, 0, []) (by kernel_rfl) ⟨Nat.zero_le _, rfl, Nat.le_refl _, rfl⟩ ?_
    rintro ⟨i, n, out⟩ ⟨hi, ho, hni, hr⟩
    dsimp only at hi ho hni hr
    by_cases hil : i < (nowL w ps).length
    · rw [drop_gt hil, flF] at hr
      rcases out with _ | ⟨a, l⟩
      · repeat' (first | (with_reducible first | refine Wa.h ?_ | refine Ws.h ?_ | refine Wb.h fun K hK => ?_ | (refine hK _ ?_; clear hK K)) | ((with_reducible refine kQ ?_ ?_); kernel_rfl) | ((with_reducible refine k1 ?_ ?_); rfl) | ((with_reducible refine k0 ?_ ?_); rfl) | ((with_reducible apply kB) <;> first | rfl | intro h) | ((with_reducible refine kM ?_ ?_); rfl) | (with_reducible refine Wt.h (fun h => ?_) (fun h => ?_)) <;> try (exfalso; omega) | (with_reducible refine Wu.h (fun h => ?_) (fun h => ?_)) <;> try simp only [h] | ((fail_if_success with_reducible refine Wz.h ?_); simp (disch := omega) only [↓LD, LU, LS, LT, loadA_rf, ↓reduceIte, reduceCtorEq, Nat.reduceAdd, Nat.reduceMul, Nat.reduceSub, Nat.reduceLeDiff, Nat.reduceLT, Nat.reduceEqDiff, Int.reduceNeg, Int.reduceLT, Int.reduceLE, Int.reduceEq, Int.reduceToNat, outF, fK, rkB, fY, List.append_nil]) | ((with_reducible refine And.intro ?_ ?_); omega) | ((fail_if_success with_reducible refine Wz.h ?_); simp only [D.int, D.bool]))
        · have hne : ¬ gt (nowL w ps) i = [] := fun e => by rename_i h; rw [e] at h; simp at h
          rw [if_neg hne] at hr
          subst ho
          exact Next.mk (i + 1, 0 + 1, [] ++ [(i : Int)]) (by kernel_rfl) ⟨by dsimp only; omega, by simp, by simp at * <;> omega, by dsimp only; rw [hr, List.append_assoc]; rfl⟩ (by dsimp only; omega)
        · have he : gt (nowL w ps) i = [] := List.eq_nil_of_length_eq_zero (by omega)
          rw [if_pos he] at hr
          exact Next.mk (i + 1, n, []) (by kernel_rfl) ⟨by dsimp only; omega, ho, by dsimp only; omega, hr⟩ (by dsimp only; omega)
      · try simp only [List.length_cons] at ho
        repeat' (first | (with_reducible first | refine Wa.h ?_ | refine Ws.h ?_ | refine Wb.h fun K hK => ?_ | (refine hK _ ?_; clear hK K)) | ((with_reducible refine kQ ?_ ?_); kernel_rfl) | ((with_reducible refine k1 ?_ ?_); rfl) | ((with_reducible refine k0 ?_ ?_); rfl) | ((with_reducible apply kB) <;> first | rfl | intro h) | ((with_reducible refine kM ?_ ?_); rfl) | (with_reducible refine Wt.h (fun h => ?_) (fun h => ?_)) <;> try (exfalso; omega) | (with_reducible refine Wu.h (fun h => ?_) (fun h => ?_)) <;> try simp only [h] | ((fail_if_success with_reducible refine Wz.h ?_); simp (disch := omega) only [↓LD, LU, LS, LT, loadA_rf, ↓reduceIte, reduceCtorEq, Nat.reduceAdd, Nat.reduceMul, Nat.reduceSub, Nat.reduceLeDiff, Nat.reduceLT, Nat.reduceEqDiff, Int.reduceNeg, Int.reduceLT, Int.reduceLE, Int.reduceEq, Int.reduceToNat, outF, fK, rkB, fY, List.append_nil]) | ((with_reducible refine And.intro ?_ ?_); omega) | ((fail_if_success with_reducible refine Wz.h ?_); simp only [D.int, D.bool]))
        · have hne : ¬ gt (nowL w ps) i = [] := fun e => by rename_i h; rw [e] at h; simp at h
          rw [if_neg hne] at hr
          subst ho
          exact Next.mk (i + 1, (l.length + 1) + 1, (a :: l) ++ [(i : Int)]) (by kernel_rfl) ⟨by dsimp only; omega, by simp, by simp at * <;> omega, by dsimp only; rw [hr, List.append_assoc]; rfl⟩ (by dsimp only; omega)
        · have he : gt (nowL w ps) i = [] := List.eq_nil_of_length_eq_zero (by omega)
          rw [if_pos he] at hr
          exact Next.mk (i + 1, n, (a :: l)) (by kernel_rfl) ⟨by dsimp only; omega, ho, by dsimp only; omega, hr⟩ (by dsimp only; omega)
    · rw [List.drop_of_length_le (by omega), flF, List.append_nil] at hr
      rcases out with _ | ⟨a, l⟩
      · repeat' (first | (with_reducible first | refine Wa.h ?_ | refine Ws.h ?_ | refine Wb.h fun K hK => ?_ | (refine hK _ ?_; clear hK K)) | ((with_reducible refine kQ ?_ ?_); kernel_rfl) | ((with_reducible refine k1 ?_ ?_); rfl) | ((with_reducible refine k0 ?_ ?_); rfl) | ((with_reducible apply kB) <;> first | rfl | intro h) | ((with_reducible refine kM ?_ ?_); rfl) | (with_reducible refine Wt.h (fun h => ?_) (fun h => ?_)) <;> try (exfalso; omega) | (with_reducible refine Wu.h (fun h => ?_) (fun h => ?_)) <;> try simp only [h] | ((fail_if_success with_reducible refine Wz.h ?_); simp (disch := omega) only [↓LD, LU, LS, LT, loadA_rf, ↓reduceIte, reduceCtorEq, Nat.reduceAdd, Nat.reduceMul, Nat.reduceSub, Nat.reduceLeDiff, Nat.reduceLT, Nat.reduceEqDiff, Int.reduceNeg, Int.reduceLT, Int.reduceLE, Int.reduceEq, Int.reduceToNat, outF, fK, rkB]) | ((with_reducible refine And.intro ?_ ?_); omega) | ((fail_if_success with_reducible refine Wz.h ?_); simp only [D.int, D.bool]))
        exact RetS.still rfl (by kernel_rfl) .nil ⟨by rw [flD, if_neg (by simp), hr]; rfl, rfl⟩
      · repeat' (first | (with_reducible first | refine Wa.h ?_ | refine Ws.h ?_ | refine Wb.h fun K hK => ?_ | (refine hK _ ?_; clear hK K)) | ((with_reducible refine kQ ?_ ?_); kernel_rfl) | ((with_reducible refine k1 ?_ ?_); rfl) | ((with_reducible refine k0 ?_ ?_); rfl) | ((with_reducible apply kB) <;> first | rfl | intro h) | ((with_reducible refine kM ?_ ?_); rfl) | (with_reducible refine Wt.h (fun h => ?_) (fun h => ?_)) <;> try (exfalso; omega) | (with_reducible refine Wu.h (fun h => ?_) (fun h => ?_)) <;> try simp only [h] | ((fail_if_success with_reducible refine Wz.h ?_); simp (disch := omega) only [↓LD, LU, LS, LT, loadA_rf, ↓reduceIte, reduceCtorEq, Nat.reduceAdd, Nat.reduceMul, Nat.reduceSub, Nat.reduceLeDiff, Nat.reduceLT, Nat.reduceEqDiff, Int.reduceNeg, Int.reduceLT, Int.reduceLE, Int.reduceEq, Int.reduceToNat, outF, fK, rkB]) | ((with_reducible refine And.intro ?_ ?_); omega) | ((fail_if_success with_reducible refine Wz.h ?_); simp only [D.int, D.bool]))
        exact RetS.still rfl (by kernel_rfl) (.sl rfl (fun e => by simp at ho; omega)) ⟨by rw [flD, if_neg (by simp), hr, List.drop_zero, fI, ho]; rfl, rfl⟩
/-- What is in the files behind a crash. -/
def crL (w : List Bs) (ps : List Op) (done cut : Int) : List Bs :=
  let c := (pick done (ps.length + 1)).toNat
  if c < ps.length ∧ (gt ps c).rm = false then turnL (nowL w (ps.take c)) ⟨(gt ps c).k, false, (gt ps c).b.take (pick cut ((gt ps c).b.length + 1)).toNat⟩ else nowL w (ps.take c)
set_option maxRecDepth 100000 in
theorem c_rd_Crash (w : List Bs) (ps : List Op) (fuse : Int) (dead : Bool) (works done cut : Int) (hok : RdOk w ps) :
    Con Try.prog 25 [.pt 0 0, D.int done, D.int cut] [rkB w ps fuse dead works] fun r H' => r = .tp [] ∧ H' = [rkB (crL w ps done cut) [] (-1) false works] := by
  have hn := hok.num
  refine Con.walk good fn_rd_Crash (by simp) ?_
  unfold s_rd_Crash
  simp only [argsE, List.length_cons, List.length_nil, Nat.reduceAdd]
  repeat' (first | (with_reducible first | refine Wa.h ?_ | refine Ws.h ?_ | refine Wb.h fun K hK => ?_ | (refine hK _ ?_; clear hK K)) | ((with_reducible refine kQ ?_ ?_); kernel_rfl) | ((with_reducible refine k1 ?_ ?_); rfl) | ((with_reducible refine k0 ?_ ?_); rfl) | ((with_reducible apply kB) <;> first | rfl | intro h) | ((with_reducible refine kM ?_ ?_); rfl) | (with_reducible refine Wt.h (fun h => ?_) (fun h => ?_)) <;> try (exfalso; omega) | (with_reducible refine Wu.h (fun h => ?_) (fun h => ?_)) <;> try simp only [h] | ((fail_if_success with_reducible refine Wz.h ?_); simp (disch := omega) only [↓LD, LU, LS, LT, loadA_rf, ↓reduceIte, reduceCtorEq, Nat.reduceAdd, Nat.reduceMul, Nat.reduceSub, Nat.reduceLeDiff, Nat.reduceLT, Nat.reduceEqDiff, Int.reduceNeg, Int.reduceLT, Int.reduceLE, Int.reduceEq, Int.reduceToNat, rkB, fP]) | ((with_reducible refine And.intro ?_ ?_); omega) | ((fail_if_success with_reducible refine Wz.h ?_); simp only [D.int, D.bool]))
  refine callW_emb (c_rd_pick done (ps.length + 1) (by omega) (by omega)) [] (by kernel_rfl) rfl rfl ?_
  rintro _ _ ⟨rfl, rfl⟩
  have hp := pick_in (x := done) (n := ps.length + 1) (by omega)
  have hcr : crL w ps done cut = crL w ps done cut := rfl
  conv at hcr => rhs; unfold crL
  obtain ⟨c, hc⟩ := Int.eq_ofNat_of_zero_le hp.1
  rw [hc] at hp hcr ⊢
  rw [show ((c : Int)).toNat = c by omega] at hcr
  repeat' (first | (with_reducible first | refine Wa.h ?_ | refine Ws.h ?_ | refine Wb.h fun K hK => ?_ | (refine hK _ ?_; clear hK K)) | ((with_reducible refine kQ ?_ ?_); kernel_rfl) | ((with_reducible refine k1 ?_ ?_); rfl) | ((with_reducible refine k0 ?_ ?_); rfl) | ((with_reducible apply kB) <;> first | rfl | intro h) | ((with_reducible refine kM ?_ ?_); rfl) | (with_reducible refine Wt.h (fun h => ?_) (fun h => ?_)) <;> try (exfalso; omega) | (with_reducible refine Wu.h (fun h => ?_) (fun h => ?_)) <;> try simp only [h] | ((fail_if_success with_reducible refine Wz.h ?_); simp (disch := omega) only [↓LD, LU, LS, LT, loadA_rf, ↓reduceIte, reduceCtorEq, Nat.reduceAdd, Nat.reduceMul, Nat.reduceSub, Nat.reduceLeDiff, Nat.reduceLT, Nat.reduceEqDiff, Int.reduceNeg, Int.reduceLT, Int.reduceLE, Int.reduceEq, Int.reduceToNat]) | ((with_reducible refine And.intro ?_ ?_); omega) | ((fail_if_success with_reducible refine Wz.h ?_); simp only [D.int, D.bool]))
  refine HS.cut [0, 1, 2, 6] 0 (fun _ : Unit => ⟨frm 87 [(0, .pt 0 0), (1, D.int c), (2, D.int cut), (6, .f (fK (nowL w (ps.take c))))], [rkB w ps fuse dead works], []⟩) (fun _ => True) ?_ ?_
  · refine HS.loopG [0, 1, 2, 6, 7] (fun i : Nat => ⟨frm 87 [(0, .pt 0 0), (1, D.int c), (2, D.int cut), (6, .f (fK (nowL w (ps.take i)))), (7, D.int i)], [rkB w ps fuse dead works], []⟩)
      (fun i => i ≤ c) (fun i => c - i) 0 (by kernel_rfl) (Nat.zero_le _) ?_
    rintro i hi
    by_cases hic : i < c
    · have hil : i < ps.length := by omega
      obtain ⟨h1, h2, h3, h4⟩ := hok.turn hil
      repeat' (first | (with_reducible first | refine Wa.h ?_ | refine Ws.h ?_ | refine Wb.h fun K hK => ?_ | (refine hK _ ?_; clear hK K)) | ((with_reducible refine kQ ?_ ?_); kernel_rfl) | ((with_reducible refine k1 ?_ ?_); rfl) | ((with_reducible refine k0 ?_ ?_); rfl) | ((with_reducible apply kB) <;> first | rfl | intro h) | ((with_reducible refine kM ?_ ?_); rfl) | (with_reducible refine Wt.h (fun h => ?_) (fun h => ?_)) <;> try (exfalso; omega) | (with_reducible refine Wu.h (fun h => ?_) (fun h => ?_)) <;> try simp only [h] | ((fail_if_success with_reducible refine Wz.h ?_); simp (disch := omega) only [↓LD, LU, LS, LT, loadA_rf, ↓reduceIte, reduceCtorEq, Nat.reduceAdd, Nat.reduceMul, Nat.reduceSub, Nat.reduceLeDiff, Nat.reduceLT, Nat.reduceEqDiff, Int.reduceNeg, Int.reduceLT, Int.reduceLE, Int.reduceEq, Int.reduceToNat, rkB, fP, op_load, op_cs, -loadA_rf]) | ((with_reducible refine And.intro ?_ ?_); omega) | ((fail_if_success with_reducible refine Wz.h ?_); simp only [D.int, D.bool]))
      refine callW_emb (c_rd_turn _ (gt ps i) h1 h2 h3 h4) [] (by kernel_rfl) rfl rfl ?_
      rintro _ _ ⟨rfl, rfl⟩
      rw [← nowL_take hil]
      repeat' (first | (with_reducible first | refine Wa.h ?_ | refine Ws.h ?_ | refine Wb.h fun K hK => ?_ | (refine hK _ ?_; clear hK K)) | ((with_reducible refine kQ ?_ ?_); kernel_rfl) | ((with_reducible refine k1 ?_ ?_); rfl) | ((with_reducible refine k0 ?_ ?_); rfl) | ((with_reducible apply kB) <;> first | rfl | intro h) | ((with_reducible refine kM ?_ ?_); rfl) | (with_reducible refine Wt.h (fun h => ?_) (fun h => ?_)) <;> try (exfalso; omega) | (with_reducible refine Wu.h (fun h => ?_) (fun h => ?_)) <;> try simp only [h] | ((fail_if_success with_reducible refine Wz.h ?_); simp (disch := omega) only [↓LD, LU, LS, LT, loadA_rf, ↓reduceIte, reduceCtorEq, Nat.reduceAdd, Nat.reduceMul, Nat.reduceSub, Nat.reduceLeDiff, Nat.reduceLT, Nat.reduceEqDiff, Int.reduceNeg, Int.reduceLT, Int.reduceLE, Int.reduceEq, Int.reduceToNat, rkB]) | ((with_reducible refine And.intro ?_ ?_); omega) | ((fail_if_success with_reducible refine Wz.h ?_); simp only [D.int, D.bool]))
      exact Next.mk (i + 1) (by kernel_rfl) (by omega) (by omega)
    · obtain rfl : i = c := by omega
      repeat' (first | (with_reducible first | refine Wa.h ?_ | refine Ws.h ?_ | refine Wb.h fun K hK => ?_ | (refine hK _ ?_; clear hK K)) | ((with_reducible refine kQ ?_ ?_); kernel_rfl) | ((with_reducible refine k1 ?_ ?_); rfl) | ((with_reducible refine k0 ?_ ?_); rfl) | ((with_reducible apply kB) <;> first | rfl | intro h) | ((with_reducible refine kM ?_ ?_); rfl) | (with_reducible refine Wt.h (fun h => ?_) (fun h => ?_)) <;> try (exfalso; omega) | (with_reducible refine Wu.h (fun h => ?_) (fun h => ?_)) <;> try simp only [h] | ((fail_if_success with_reducible refine Wz.h ?_); simp (disch := omega) only [↓LD, LU, LS, LT, loadA_rf, ↓reduceIte, reduceCtorEq, Nat.reduceAdd, Nat.reduceMul, Nat.reduceSub, Nat.reduceLeDiff, Nat.reduceLT, Nat.reduceEqDiff, Int.reduceNeg, Int.reduceLT, Int.reduceLE, Int.reduceEq, Int.reduceToNat, rkB, fP]) | ((with_reducible refine And.intro ?_ ?_); omega) | ((fail_if_success with_reducible refine Wz.h ?_); simp only [D.int, D.bool]))
      exact OutS.mk () (by kernel_rfl) trivial
  rintro _ - s' hv
  refine blockQ_hit ?_
  refine thenQ_n ?_
  refine HS.view hv ?_
  clear hv
  refine HS.seq ?_
  refine HS.cutn (fun q : List Bs => ⟨frm 87 [(0, .pt 0 0), (6, .f (fK q))], [rkB w ps fuse dead works], []⟩) (fun q => q = crL w ps done cut) ?_ ?_
  · by_cases hcl : c < ps.length
    · obtain ⟨h1, h2, h3, h4⟩ := hok.turn hcl
      cases hrm : (gt ps c).rm with
      | true =>
        rw [if_neg (by simp [hrm])] at hcr
        repeat' (first | (with_reducible first | refine Wa.h ?_ | refine Ws.h ?_ | refine Wb.h fun K hK => ?_ | (refine hK _ ?_; clear hK K)) | ((with_reducible refine kQ ?_ ?_); kernel_rfl) | ((with_reducible refine k1 ?_ ?_); rfl) | ((with_reducible refine k0 ?_ ?_); rfl) | ((with_reducible apply kB) <;> first | rfl | intro h) | ((with_reducible refine kM ?_ ?_); rfl) | (with_reducible refine Wt.h (fun h => ?_) (fun h => ?_)) <;> try (exfalso; omega) | (with_reducible refine Wu.h (fun h => ?_) (fun h => ?_)) <;> try simp only [h] | ((fail_if_success with_reducible refine Wz.h ?_); simp (disch := omega) only [↓LD, LU, LS, LT, loadA_rf, ↓reduceIte, reduceCtorEq, Nat.reduceAdd, Nat.reduceMul, Nat.reduceSub, Nat.reduceLeDiff, Nat.reduceLT, Nat.reduceEqDiff, Int.reduceNeg, Int.reduceLT, Int.reduceLE, Int.reduceEq, Int.reduceToNat, rkB, fP, op_at0, op_at1, op_at2, hrm]) | ((with_reducible refine And.intro ?_ ?_); omega) | ((fail_if_success with_reducible refine Wz.h ?_); simp only [D.int, D.bool]))
        exact OutN.mk [0, 6] _ (by kernel_rfl) hcr.symm
      | false =>
        rw [if_pos ⟨hcl, hrm⟩] at hcr
        have hpc := pick_in (x := cut) (n := (gt ps c).b.length + 1) (by omega)
        repeat' (first | (with_reducible first | refine Wa.h ?_ | refine We.h fun K hK => ?_ | refine Wd.h fun K M hK hM => ?_ | (refine hK _ _ _ _ ?_; clear hK K; try clear hM M) | (refine hM ?_; clear hM M; try clear hK K) | refine Ws.h ?_ | refine Wb.h fun K hK => ?_ | (refine hK _ ?_; clear hK K)) | ((with_reducible refine kQ ?_ ?_); kernel_rfl) | ((with_reducible refine k1 ?_ ?_); rfl) | ((with_reducible refine k0 ?_ ?_); rfl) | ((with_reducible apply kB) <;> first | rfl | intro h) | ((with_reducible refine kM ?_ ?_); rfl) | (with_reducible refine Wt.h (fun h => ?_) (fun h => ?_)) <;> try (exfalso; omega) | (with_reducible refine Wu.h (fun h => ?_) (fun h => ?_)) <;> try simp only [h] | ((fail_if_success with_reducible refine Wz.h ?_); simp (disch := omega) only [↓LD, LU, LS, LT, loadA_rf, ↓reduceIte, reduceCtorEq, Nat.reduceAdd, Nat.reduceMul, Nat.reduceSub, Nat.reduceLeDiff, Nat.reduceLT, Nat.reduceEqDiff, Int.reduceNeg, Int.reduceLT, Int.reduceLE, Int.reduceEq, Int.reduceToNat, rkB, fP, fY, op_at0, op_at1, op_at2, op_load, op_cs, -loadA_rf, hrm]) | ((with_reducible refine And.intro ?_ ?_); omega) | ((fail_if_success with_reducible refine Wz.h ?_); simp only [D.int, D.bool]))
        refine callDr_emb (c_rd_pick cut ((gt ps c).b.length + 1) (by omega) (by omega)) [] (by kernel_rfl) rfl rfl ?_
        obtain ⟨m, hm⟩ := Int.eq_ofNat_of_zero_le hpc.1
        rw [hm] at hpc hcr ⊢
        rw [show ((m : Int)).toNat = m by omega] at hcr
        have hml : ((gt ps c).b.take m).length = m := by rw [List.length_take]; omega
        have htk : List.take m (List.map uF (gt ps c).b) = ((gt ps c).b.take m).map uF := List.map_take.symm
        have ht := c_rd_turn (nowL w (ps.take c)) ⟨(gt ps c).k, false, (gt ps c).b.take m⟩ h1 h2 (fun x hx => by have := h3 x hx; dsimp only; omega) (by dsimp only; omega)
        simp only [opD, fY, hml] at ht
        repeat' (first | (with_reducible first | refine Wa.h ?_ | refine We.h fun K hK => ?_ | refine Wd.h fun K M hK hM => ?_ | (refine hK _ _ _ _ ?_; clear hK K; try clear hM M) | (refine hM ?_; clear hM M; try clear hK K) | refine Ws.h ?_ | refine Wb.h fun K hK => ?_ | (refine hK _ ?_; clear hK K)) | ((with_reducible refine kQ ?_ ?_); kernel_rfl) | ((with_reducible refine k1 ?_ ?_); rfl) | ((with_reducible refine k0 ?_ ?_); rfl) | ((with_reducible apply kB) <;> first | rfl | intro h) | ((with_reducible refine kM ?_ ?_); rfl) | (with_reducible refine Wt.h (fun h => ?_) (fun h => ?_)) <;> try (exfalso; omega) | (with_reducible refine Wu.h (fun h => ?_) (fun h => ?_)) <;> try simp only [h] | ((fail_if_success with_reducible refine Wz.h ?_); simp (disch := omega) only [↓LD, LU, LS, LT, loadA_rf, ↓reduceIte, reduceCtorEq, Nat.reduceAdd, Nat.reduceMul, Nat.reduceSub, Nat.reduceLeDiff, Nat.reduceLT, Nat.reduceEqDiff, Int.reduceNeg, Int.reduceLT, Int.reduceLE, Int.reduceEq, Int.reduceToNat, Nat.sub_zero, htk]) | ((with_reducible refine And.intro ?_ ?_); omega) | ((fail_if_success with_reducible refine Wz.h ?_); simp only [D.int, D.bool]))
        refine callDr_emb ht [] (by kernel_rfl) rfl rfl ?_
        repeat' (first | (with_reducible first | refine Wa.h ?_ | refine We.h fun K hK => ?_ | refine Wd.h fun K M hK hM => ?_ | (refine hK _ _ _ _ ?_; clear hK K; try clear hM M) | (refine hM ?_; clear hM M; try clear hK K) | refine Ws.h ?_ | refine Wb.h fun K hK => ?_ | (refine hK _ ?_; clear hK K)) | ((with_reducible refine kQ ?_ ?_); kernel_rfl) | ((with_reducible refine k1 ?_ ?_); rfl) | ((with_reducible refine k0 ?_ ?_); rfl) | ((with_reducible apply kB) <;> first | rfl | intro h) | ((with_reducible refine kM ?_ ?_); rfl) | (with_reducible refine Wt.h (fun h => ?_) (fun h => ?_)) <;> try (exfalso; omega) | (with_reducible refine Wu.h (fun h => ?_) (fun h => ?_)) <;> try simp only [h] | ((fail_if_success with_reducible refine Wz.h ?_); simp (disch := omega) only [↓LD, LU, LS, LT, loadA_rf, ↓reduceIte, reduceCtorEq, Nat.reduceAdd, Nat.reduceMul, Nat.reduceSub, Nat.reduceLeDiff, Nat.reduceLT, Nat.reduceEqDiff, Int.reduceNeg, Int.reduceLT, Int.reduceLE, Int.reduceEq, Int.reduceToNat, rkB]) | ((with_reducible refine And.intro ?_ ?_); omega) | ((fail_if_success with_reducible refine Wz.h ?_); simp only [D.int, D.bool]))
        exact OutN.mk [0, 6] _ (by kernel_rfl) hcr.symm
    · rw [if_neg (by omega)] at hcr
      repeat' (first | (with_reducible first | refine Wa.h ?_ | refine Ws.h ?_ | refine Wb.h fun K hK => ?_ | (refine hK _ ?_; clear hK K)) | ((with_reducible refine kQ ?_ ?_); kernel_rfl) | ((with_reducible refine k1 ?_ ?_); rfl) | ((with_reducible refine k0 ?_ ?_); rfl) | ((with_reducible apply kB) <;> first | rfl | intro h) | ((with_reducible refine kM ?_ ?_); rfl) | (with_reducible refine Wt.h (fun h => ?_) (fun h => ?_)) <;> try (exfalso; omega) | (with_reducible refine Wu.h (fun h => ?_) (fun h => ?_)) <;> try simp only [h] | ((fail_if_success with_reducible refine Wz.h ?_); simp (disch := omega) only [↓LD, LU, LS, LT, loadA_rf, ↓reduceIte, reduceCtorEq, Nat.reduceAdd, Nat.reduceMul, Nat.reduceSub, Nat.reduceLeDiff, Nat.reduceLT, Nat.reduceEqDiff, Int.reduceNeg, Int.reduceLT, Int.reduceLE, Int.reduceEq, Int.reduceToNat, rkB, fP]) | ((with_reducible refine And.intro ?_ ?_); omega) | ((fail_if_success with_reducible refine Wz.h ?_); simp only [D.int, D.bool]))
      exact OutN.mk [0, 6] _ (by kernel_rfl) hcr.symm
  rintro q hq s' hv
  subst hq
  refine thenQ_n ?_
  refine HS.view hv ?_
  clear hv
  refine HS.seq ?_
  repeat' (first | (with_reducible first | refine Wa.h ?_ | refine Wb.h fun K hK => ?_ | (refine hK _ ?_; clear hK K)) | ((with_reducible refine kQ ?_ ?_); kernel_rfl) | ((with_reducible refine k1 ?_ ?_); rfl) | ((with_reducible refine k0 ?_ ?_); rfl) | ((with_reducible apply kB) <;> first | rfl | intro h) | ((with_reducible refine kM ?_ ?_); rfl) | (with_reducible refine Wt.h (fun h => ?_) (fun h => ?_)) <;> try (exfalso; omega) | (with_reducible refine Wu.h (fun h => ?_) (fun h => ?_)) <;> try simp only [h] | ((fail_if_success with_reducible refine Wz.h ?_); simp (disch := omega) only [↓LD, LU, LS, LT, loadA_rf, ↓reduceIte, reduceCtorEq, Nat.reduceAdd, Nat.reduceMul, Nat.reduceSub, Nat.reduceLeDiff, Nat.reduceLT, Nat.reduceEqDiff, Int.reduceNeg, Int.reduceLT, Int.reduceLE, Int.reduceEq, Int.reduceToNat, rkB]) | ((with_reducible refine And.intro ?_ ?_); omega) | ((fail_if_success with_reducible refine Wz.h ?_); simp only [D.int, D.bool]))
  refine HS.seq ?_
  repeat' (first | (with_reducible first | refine Wa.h ?_ | refine Wb.h fun K hK => ?_ | (refine hK _ ?_; clear hK K)) | ((with_reducible refine kQ ?_ ?_); kernel_rfl) | ((with_reducible refine k1 ?_ ?_); rfl) | ((with_reducible refine k0 ?_ ?_); rfl) | ((with_reducible apply kB) <;> first | rfl | intro h) | ((with_reducible refine kM ?_ ?_); rfl) | (with_reducible refine Wt.h (fun h => ?_) (fun h => ?_)) <;> try (exfalso; omega) | (with_reducible refine Wu.h (fun h => ?_) (fun h => ?_)) <;> try simp only [h] | ((fail_if_success with_reducible refine Wz.h ?_); simp (disch := omega) only [↓LD, LU, LS, LT, loadA_rf, ↓reduceIte, reduceCtorEq, Nat.reduceAdd, Nat.reduceMul, Nat.reduceSub, Nat.reduceLeDiff, Nat.reduceLT, Nat.reduceEqDiff, Int.reduceNeg, Int.reduceLT, Int.reduceLE, Int.reduceEq, Int.reduceToNat]) | ((with_reducible refine And.intro ?_ ?_); omega) | ((fail_if_success with_reducible refine Wz.h ?_); simp only [D.int, D.bool]))
  refine HS.view (View.nil0 (r := 0) (i := 1) rfl rfl) ?_
  repeat' (first | (with_reducible first | refine Wa.h ?_ | refine Ws.h ?_ | refine Wb.h fun K hK => ?_ | (refine hK _ ?_; clear hK K)) | ((with_reducible refine kQ ?_ ?_); kernel_rfl) | ((with_reducible refine k1 ?_ ?_); rfl) | ((with_reducible refine k0 ?_ ?_); rfl) | ((with_reducible apply kB) <;> first | rfl | intro h) | ((with_reducible refine kM ?_ ?_); rfl) | (with_reducible refine Wt.h (fun h => ?_) (fun h => ?_)) <;> try (exfalso; omega) | (with_reducible refine Wu.h (fun h => ?_) (fun h => ?_)) <;> try simp only [h] | ((fail_if_success with_reducible refine Wz.h ?_); simp (disch := omega) only [↓LD, LU, LS, LT, loadA_rf, ↓reduceIte, reduceCtorEq, Nat.reduceAdd, Nat.reduceMul, Nat.reduceSub, Nat.reduceLeDiff, Nat.reduceLT, Nat.reduceEqDiff, Int.reduceNeg, Int.reduceLT, Int.reduceLE, Int.reduceEq, Int.reduceToNat]) | ((with_reducible refine And.intro ?_ ?_); omega) | ((fail_if_success with_reducible refine Wz.h ?_); simp only [D.int, D.bool]))
  exact end0 ⟨rfl, rfl⟩
end Go.Proofs.Ytjbkckhpoicaeaa.Mir

/- maps.Clone told by its contract. -/
namespace Go.Proofs
open Go.Shelf
def Ytjbkckhpoicaeaa.cloneL_ren : Go.Shelf.Ren := ⟨fun | 5 => 51 | 7 => 66 | n => n, fun | 23 => 73 | 25 => 3 | 3 => 41 | 4 => 4 | 20 => 20 | n => n, fun | n => n⟩
theorem Ytjbkckhpoicaeaa.cloneL : Go.Proofs.SlLaysW.n5 Try.prog Ytjbkckhpoicaeaa.cloneL_ren := {
  mixed := by kernel_rfl
  f5 := ⟨Try.f51.name, by decide, Try.func51.trans (congrArg some (by kernel_rfl))⟩
  f7 := Try.func66.trans (congrArg some (by kernel_rfl))
  t4 := Try.underlying4
  a4 := Try.isAgg4
  z4 := Try.sizeOf4
  v4 := Try.zeroValue4
  t20 := Try.underlying20
  a20 := Try.isAgg20
  z20 := Try.sizeOf20
  v20 := Try.zeroValue20
  t23 := Try.underlying73
  a23 := Try.isAgg73
  z23 := Try.sizeOf73
  v23 := Try.zeroValue73 }

end Go.Proofs
namespace Go.Proofs.Ytjbkckhpoicaeaa.Mir
open Go Go.RowKit Go.Shelf

def cloneG : List D → List Row → Option Eff
  | [.f (.v (.map none))], _ => some ⟨.f (.v (.map none)), [], []⟩
  | [.mp r], H => match H[r]? with
    | some (.map es) => some ⟨.mp H.length, [], [.map es]⟩
    | _ => none
  | _, _ => none

theorem one_arg {P : Program} {w : World} {φ : Nat → Nat × Nat} {A : Nat → Prop} {N : Nat} {d : D} {vs : Array Value} (h : Rs P w φ A N [d] vs.toList) : ∃ u, vs = #[u] ∧ R P w φ A N d u := by
  obtain ⟨l⟩ := vs
  obtain ⟨h1, h2⟩ := h
  match l, h1 with
  | [u], _ => exact ⟨u, rfl, h2 0 d u rfl rfl⟩

theorem clone_ok : Sound Try.prog 51 cloneG := by
  intro args H e hg w φ X vs hH hargs
  unfold cloneG at hg
  split at hg
  · injection hg with hg
    subst hg
    obtain ⟨u, rfl, hu⟩ := one_arg hargs
    cases hu with | f hu => cases hu with | v _ =>
    have hcon := AnyW.maps_Clone_nil Ytjbkckhpoicaeaa.cloneL w
    change Calls Try.prog 51 _ _ _ at hcon
    refine hcon.mono ?_
    rintro e w' ⟨rfl, rfl⟩
    exact ⟨_, rfl, Leaves.quiet hH (.f (.v rfl))⟩
  · rename_i r
    split at hg
    · rename_i es hrow
      injection hg with hg
      subst hg
      obtain ⟨u, rfl, hu⟩ := one_arg hargs
      cases hu with | mp hr =>
      obtain ⟨en, clock, h1, h0, h2, h3⟩ := hH.rows r _ hrow
      have hcon := AnyW.maps_Clone Ytjbkckhpoicaeaa.cloneL (φ r).1 en clock w h1
      change Calls Try.prog 51 _ _ _ at hcon
      refine hcon.mono ?_
      rintro e w' ⟨rfl, rfl⟩
      refine ⟨_, rfl, leaves_more hH _ _ _ _ (fun A hA hk => ⟨⟨en, clock, by rw [ext1_new]; exact alloc_new w _, h0, h2, fun i k d m hd hm => ?_⟩, ?_⟩)⟩
      · obtain ⟨g1, g2, g3⟩ := h3 i k d m hd hm
        exact ⟨g1, g2.keep hk (fun _ h => h.elim) hA (fun s hs => ext1_old hs) (Nat.le_succ _), g3⟩
      · have := R.mp (P := Try.prog) (w := w.alloc (.map en clock)) (φ := ext1 φ H.length (w.heap.size, 0)) (A := A) (N := H.length + 1) (r := H.length) (by omega)
        rw [ext1_new] at this
        exact this
    · cases hg
  · cases hg
end Go.Proofs.Ytjbkckhpoicaeaa.Mir

/- The program's disk: Append, Sync, Remove, Read, Crash. -/
namespace Go.Proofs.Ytjbkckhpoicaeaa.Mir
open Go Go.RowKit
set_option linter.unusedVariables false
set_option linter.unusedSimpArgs false
set_option maxHeartbeats 2000000

theorem c_byte_CloneF (b : List UInt8) (n : Nat) (hb : b.length = n + 1) (hn : n + 1 ≤ 140737488355328) : Con Try.prog 50 [.f (fY b)] [] fun r H' => r = .f (fY b) ∧ H' = [] := by
  refine Con.walk good fn_byte_Clone (by simp) ?_
  unfold s_byte_Clone fY
  simp only [argsE, List.length_cons, List.length_nil, Nat.reduceAdd, hb]
  repeat' (first | refine Wa.h ?_ | refine Ws.h ?_ | refine Wb.h fun K hK => ?_ | ((with_reducible refine hK _ ?_); clear hK K) | ((with_reducible refine kQ ?_ ?_); kernel_rfl) | ((with_reducible refine k1 ?_ ?_); rfl) | ((with_reducible refine k0 ?_ ?_); rfl) | ((with_reducible apply kB) <;> first | rfl | intro h) | ((with_reducible refine kM ?_ ?_); rfl) | refine Wt.h (fun h => ?_) (fun h => ?_) <;> try (exfalso; omega) | refine Wu.h (fun h => ?_) (fun h => ?_) <;> try simp only [h] | ((fail_if_success refine Wz.h ?_); simp (disch := omega) only [↓LD, LU, LS, LT, loadA_rf, ↓reduceIte, reduceCtorEq, Nat.reduceAdd, Nat.reduceMul, Nat.reduceSub, Nat.reduceLeDiff, Nat.reduceLT, Nat.reduceEqDiff, Int.reduceNeg, Int.reduceLT, Int.reduceLE, Int.reduceEq, Int.reduceToNat]) | ((with_reducible refine And.intro ?_ ?_); omega) | ((fail_if_success refine Wz.h ?_); simp only [D.int, D.bool]))
  exact end1 rfl rfl (by kernel_rfl) (.sl rfl (fun e => by omega)) ⟨rfl, rfl⟩
/-- The rows behind a work that was put. -/
def dkA (e1 e2 : Fs) (n : Nat) (ws : List Wk) (fuse : Int) (dead : Bool) (works : Int) (k : Int) (b : List UInt8) : List Row := match n with
  | 0 => [dkB 3 1 fuse dead works, .map (mF e1), .map (mF (fDo e2 k b)), .data 79 ((ws ++ [(⟨k, b⟩ : Wk)]).flatMap Wk.cs)]
  | m + 1 => [dkB 4 (m + 2) fuse dead works, .map (mF e1), .map (mF (fDo e2 k b)), .dead, .data 79 ((ws ++ [(⟨k, b⟩ : Wk)]).flatMap Wk.cs)]
theorem c_put (e1 e2 : Fs) (n : Nat) (ws : List Wk) (fuse : Int) (dead : Bool) (works : Int) (B : Nat) (he : FsOk e2 B) (k : Int) (b : List UInt8) (hb : ((fGet e2 k).getD []).length + b.length ≤ 140737488355328) (hn : ws.length = n) (hn2 : n ≤ 1000000) :
    Con Try.prog 49 [.pt 0 0, wkD k b] (dkR e1 e2 n ws fuse dead works) fun r H' => r = .tp [] ∧ H' = dkA e1 e2 n ws fuse dead works k b := by
  refine (c_disk_put e1 e2 n ws fuse dead works B he k b hb hn hn2).mono ?_
  rintro r H' ⟨rfl, rfl⟩
  refine ⟨rfl, ?_⟩
  cases n <;> rfl
set_option maxRecDepth 100000 in
theorem c_disk_AppendG (e1 e2 : Fs) (n : Nat) (ws : List Wk) (fuse : Int) (dead : Bool) (works : Int) (B : Nat) (he : FsOk e2 B) (k : Int) (hk : 0 ≤ k) (b : List UInt8) (hb : ((fGet e2 k).getD []).length + b.length ≤ 140737488355328) (hn : ws.length = n) (hn2 : n ≤ 1000000)
    (hf : -1 ≤ fuse ∧ fuse ≤ 1000000) (hw : 0 ≤ works ∧ works ≤ 1000000) :
    Con Try.prog 17 [.pt 0 0, D.int k, .f (fY b)] (dkR e1 e2 n ws fuse dead works) fun r H' => r = D.int (if deadN' fuse dead = true then 14 else 0) ∧
      H' = if deadN' fuse dead = true ∨ b = [] then dkR e1 e2 n ws (fuseN fuse dead) (deadN' fuse dead) (worksN fuse dead works) else dkA e1 e2 n ws (fuseN fuse dead) (deadN' fuse dead) (worksN fuse dead works) k b := by
  refine Con.walk good fn_disk_Append (by simp) ?_
  unfold s_disk_Append
  simp only [argsE, List.length_cons, List.length_nil, Nat.reduceAdd]
  cases hd : deadN' fuse dead
  · rcases b with _ | ⟨x, b⟩
    · repeat' (first | refine Wa.h ?_ | refine Ws.h ?_ | refine Wb.h fun K hK => ?_ | ((with_reducible refine hK _ ?_); clear hK K) | ((with_reducible refine kQ ?_ ?_); kernel_rfl) | ((with_reducible refine k1 ?_ ?_); rfl) | ((with_reducible refine k0 ?_ ?_); rfl) | ((with_reducible apply kB) <;> first | rfl | intro h) | ((with_reducible refine kM ?_ ?_); rfl) | refine Wt.h (fun h => ?_) (fun h => ?_) <;> try (exfalso; omega) | refine Wu.h (fun h => ?_) (fun h => ?_) <;> try simp only [h] | ((fail_if_success refine Wz.h ?_); simp (disch := omega) only [↓LD, LU, LS, LT, loadA_rf, ↓reduceIte, reduceCtorEq, Nat.reduceAdd, Nat.reduceMul, Nat.reduceSub, Nat.reduceLeDiff, Nat.reduceLT, Nat.reduceEqDiff, Int.reduceNeg, Int.reduceLT, Int.reduceLE, Int.reduceEq, Int.reduceToNat]) | ((with_reducible refine And.intro ?_ ?_); omega) | ((fail_if_success refine Wz.h ?_); simp only [D.int, D.bool]))
      refine callW_self (c_disk_work e1 e2 n ws fuse dead works hf hw) ?_
      rintro _ _ ⟨rfl, rfl⟩
      repeat' (first | refine Wa.h ?_ | refine Ws.h ?_ | refine Wb.h fun K hK => ?_ | ((with_reducible refine hK _ ?_); clear hK K) | ((with_reducible refine kQ ?_ ?_); kernel_rfl) | ((with_reducible refine k1 ?_ ?_); rfl) | ((with_reducible refine k0 ?_ ?_); rfl) | ((with_reducible apply kB) <;> first | rfl | intro h) | ((with_reducible refine kM ?_ ?_); rfl) | refine Wt.h (fun h => ?_) (fun h => ?_) <;> try (exfalso; omega) | refine Wu.h (fun h => ?_) (fun h => ?_) <;> try simp only [h] | ((fail_if_success refine Wz.h ?_); simp (disch := omega) only [↓LD, LU, LS, LT, loadA_rf, ↓reduceIte, reduceCtorEq, Nat.reduceAdd, Nat.reduceMul, Nat.reduceSub, Nat.reduceLeDiff, Nat.reduceLT, Nat.reduceEqDiff, Int.reduceNeg, Int.reduceLT, Int.reduceLE, Int.reduceEq, Int.reduceToNat, fY, hd]) | ((with_reducible refine And.intro ?_ ?_); omega) | ((fail_if_success refine Wz.h ?_); simp only [D.int, D.bool]))
      exact endA rfl rfl ⟨rfl, by simp⟩
    · rcases n with _ | n
      · repeat' (first | refine Wa.h ?_ | refine Ws.h ?_ | refine Wb.h fun K hK => ?_ | ((with_reducible refine hK _ ?_); clear hK K) | ((with_reducible refine kQ ?_ ?_); kernel_rfl) | ((with_reducible refine k1 ?_ ?_); rfl) | ((with_reducible refine k0 ?_ ?_); rfl) | ((with_reducible apply kB) <;> first | rfl | intro h) | ((with_reducible refine kM ?_ ?_); rfl) | refine Wt.h (fun h => ?_) (fun h => ?_) <;> try (exfalso; omega) | refine Wu.h (fun h => ?_) (fun h => ?_) <;> try simp only [h] | ((fail_if_success refine Wz.h ?_); simp (disch := omega) only [↓LD, LU, LS, LT, loadA_rf, ↓reduceIte, reduceCtorEq, Nat.reduceAdd, Nat.reduceMul, Nat.reduceSub, Nat.reduceLeDiff, Nat.reduceLT, Nat.reduceEqDiff, Int.reduceNeg, Int.reduceLT, Int.reduceLE, Int.reduceEq, Int.reduceToNat]) | ((with_reducible refine And.intro ?_ ?_); omega) | ((fail_if_success refine Wz.h ?_); simp only [D.int, D.bool]))
        refine callW_self (c_disk_work e1 e2 0 ws fuse dead works hf hw) ?_
        rintro _ _ ⟨rfl, rfl⟩
        repeat' (first | refine Wa.h ?_ | refine Ws.h ?_ | refine Wb.h fun K hK => ?_ | ((with_reducible refine hK _ ?_); clear hK K) | ((with_reducible refine kQ ?_ ?_); kernel_rfl) | ((with_reducible refine k1 ?_ ?_); rfl) | ((with_reducible refine k0 ?_ ?_); rfl) | ((with_reducible apply kB) <;> first | rfl | intro h) | ((with_reducible refine kM ?_ ?_); rfl) | refine Wt.h (fun h => ?_) (fun h => ?_) <;> try (exfalso; omega) | refine Wu.h (fun h => ?_) (fun h => ?_) <;> try simp only [h] | ((fail_if_success refine Wz.h ?_); simp (disch := omega) only [↓LD, LU, LS, LT, loadA_rf, ↓reduceIte, reduceCtorEq, Nat.reduceAdd, Nat.reduceMul, Nat.reduceSub, Nat.reduceLeDiff, Nat.reduceLT, Nat.reduceEqDiff, Int.reduceNeg, Int.reduceLT, Int.reduceLE, Int.reduceEq, Int.reduceToNat, fY, hd, dkR]) | ((with_reducible refine And.intro ?_ ?_); omega) | ((fail_if_success refine Wz.h ?_); simp only [D.int, D.bool]))
        refine callW_emb (c_byte_CloneF (x :: b) b.length rfl (by simp only [List.length_cons] at hb; omega)) [] (by kernel_rfl) rfl rfl ?_
        rintro _ _ ⟨rfl, rfl⟩
        repeat' (first | refine Wa.h ?_ | refine Ws.h ?_ | refine Wb.h fun K hK => ?_ | ((with_reducible refine hK _ ?_); clear hK K) | ((with_reducible refine kQ ?_ ?_); kernel_rfl) | ((with_reducible refine k1 ?_ ?_); rfl) | ((with_reducible refine k0 ?_ ?_); rfl) | ((with_reducible apply kB) <;> first | rfl | intro h) | ((with_reducible refine kM ?_ ?_); rfl) | refine Wt.h (fun h => ?_) (fun h => ?_) <;> try (exfalso; omega) | refine Wu.h (fun h => ?_) (fun h => ?_) <;> try simp only [h] | ((fail_if_success refine Wz.h ?_); simp (disch := omega) only [↓LD, LU, LS, LT, loadA_rf, ↓reduceIte, reduceCtorEq, Nat.reduceAdd, Nat.reduceMul, Nat.reduceSub, Nat.reduceLeDiff, Nat.reduceLT, Nat.reduceEqDiff, Int.reduceNeg, Int.reduceLT, Int.reduceLE, Int.reduceEq, Int.reduceToNat, List.append_nil]) | ((with_reducible refine And.intro ?_ ?_); omega) | ((fail_if_success refine Wz.h ?_); simp only [D.int, D.bool]))
        refine callW_self (c_put e1 e2 0 ws (fuseN fuse dead) false (worksN fuse dead works) B he k (x :: b) hb hn hn2) ?_
        rintro _ _ ⟨rfl, rfl⟩
        repeat' (first | refine Wa.h ?_ | refine Ws.h ?_ | refine Wb.h fun K hK => ?_ | ((with_reducible refine hK _ ?_); clear hK K) | ((with_reducible refine kQ ?_ ?_); kernel_rfl) | ((with_reducible refine k1 ?_ ?_); rfl) | ((with_reducible refine k0 ?_ ?_); rfl) | ((with_reducible apply kB) <;> first | rfl | intro h) | ((with_reducible refine kM ?_ ?_); rfl) | refine Wt.h (fun h => ?_) (fun h => ?_) <;> try (exfalso; omega) | refine Wu.h (fun h => ?_) (fun h => ?_) <;> try simp only [h] | ((fail_if_success refine Wz.h ?_); simp (disch := omega) only [↓LD, LU, LS, LT, loadA_rf, ↓reduceIte, reduceCtorEq, Nat.reduceAdd, Nat.reduceMul, Nat.reduceSub, Nat.reduceLeDiff, Nat.reduceLT, Nat.reduceEqDiff, Int.reduceNeg, Int.reduceLT, Int.reduceLE, Int.reduceEq, Int.reduceToNat]) | ((with_reducible refine And.intro ?_ ?_); omega) | ((fail_if_success refine Wz.h ?_); simp only [D.int, D.bool]))
        exact endA rfl rfl ⟨rfl, by simp⟩
      · repeat' (first | refine Wa.h ?_ | refine Ws.h ?_ | refine Wb.h fun K hK => ?_ | ((with_reducible refine hK _ ?_); clear hK K) | ((with_reducible refine kQ ?_ ?_); kernel_rfl) | ((with_reducible refine k1 ?_ ?_); rfl) | ((with_reducible refine k0 ?_ ?_); rfl) | ((with_reducible apply kB) <;> first | rfl | intro h) | ((with_reducible refine kM ?_ ?_); rfl) | refine Wt.h (fun h => ?_) (fun h => ?_) <;> try (exfalso; omega) | refine Wu.h (fun h => ?_) (fun h => ?_) <;> try simp only [h] | ((fail_if_success refine Wz.h ?_); simp (disch := omega) only [↓LD, LU, LS, LT, loadA_rf, ↓reduceIte, reduceCtorEq, Nat.reduceAdd, Nat.reduceMul, Nat.reduceSub, Nat.reduceLeDiff, Nat.reduceLT, Nat.reduceEqDiff, Int.reduceNeg, Int.reduceLT, Int.reduceLE, Int.reduceEq, Int.reduceToNat]) | ((with_reducible refine And.intro ?_ ?_); omega) | ((fail_if_success refine Wz.h ?_); simp only [D.int, D.bool]))
        refine callW_self (c_disk_work e1 e2 (n + 1) ws fuse dead works hf hw) ?_
        rintro _ _ ⟨rfl, rfl⟩
        repeat' (first | refine Wa.h ?_ | refine Ws.h ?_ | refine Wb.h fun K hK => ?_ | ((with_reducible refine hK _ ?_); clear hK K) | ((with_reducible refine kQ ?_ ?_); kernel_rfl) | ((with_reducible refine k1 ?_ ?_); rfl) | ((with_reducible refine k0 ?_ ?_); rfl) | ((with_reducible apply kB) <;> first | rfl | intro h) | ((with_reducible refine kM ?_ ?_); rfl) | refine Wt.h (fun h => ?_) (fun h => ?_) <;> try (exfalso; omega) | refine Wu.h (fun h => ?_) (fun h => ?_) <;> try simp only [h] | ((fail_if_success refine Wz.h ?_); simp (disch := omega) only [↓LD, LU, LS, LT, loadA_rf, ↓reduceIte, reduceCtorEq, Nat.reduceAdd, Nat.reduceMul, Nat.reduceSub, Nat.reduceLeDiff, Nat.reduceLT, Nat.reduceEqDiff, Int.reduceNeg, Int.reduceLT, Int.reduceLE, Int.reduceEq, Int.reduceToNat, fY, hd, dkR]) | ((with_reducible refine And.intro ?_ ?_); omega) | ((fail_if_success refine Wz.h ?_); simp only [D.int, D.bool]))
        refine callW_emb (c_byte_CloneF (x :: b) b.length rfl (by simp only [List.length_cons] at hb; omega)) [] (by kernel_rfl) rfl rfl ?_
        rintro _ _ ⟨rfl, rfl⟩
        repeat' (first | refine Wa.h ?_ | refine Ws.h ?_ | refine Wb.h fun K hK => ?_ | ((with_reducible refine hK _ ?_); clear hK K) | ((with_reducible refine kQ ?_ ?_); kernel_rfl) | ((with_reducible refine k1 ?_ ?_); rfl) | ((with_reducible refine k0 ?_ ?_); rfl) | ((with_reducible apply kB) <;> first | rfl | intro h) | ((with_reducible refine kM ?_ ?_); rfl) | refine Wt.h (fun h => ?_) (fun h => ?_) <;> try (exfalso; omega) | refine Wu.h (fun h => ?_) (fun h => ?_) <;> try simp only [h] | ((fail_if_success refine Wz.h ?_); simp (disch := omega) only [↓LD, LU, LS, LT, loadA_rf, ↓reduceIte, reduceCtorEq, Nat.reduceAdd, Nat.reduceMul, Nat.reduceSub, Nat.reduceLeDiff, Nat.reduceLT, Nat.reduceEqDiff, Int.reduceNeg, Int.reduceLT, Int.reduceLE, Int.reduceEq, Int.reduceToNat, List.append_nil]) | ((with_reducible refine And.intro ?_ ?_); omega) | ((fail_if_success refine Wz.h ?_); simp only [D.int, D.bool]))
        refine callW_self (c_put e1 e2 (n + 1) ws (fuseN fuse dead) false (worksN fuse dead works) B he k (x :: b) hb hn hn2) ?_
        rintro _ _ ⟨rfl, rfl⟩
        repeat' (first | refine Wa.h ?_ | refine Ws.h ?_ | refine Wb.h fun K hK => ?_ | ((with_reducible refine hK _ ?_); clear hK K) | ((with_reducible refine kQ ?_ ?_); kernel_rfl) | ((with_reducible refine k1 ?_ ?_); rfl) | ((with_reducible refine k0 ?_ ?_); rfl) | ((with_reducible apply kB) <;> first | rfl | intro h) | ((with_reducible refine kM ?_ ?_); rfl) | refine Wt.h (fun h => ?_) (fun h => ?_) <;> try (exfalso; omega) | refine Wu.h (fun h => ?_) (fun h => ?_) <;> try simp only [h] | ((fail_if_success refine Wz.h ?_); simp (disch := omega) only [↓LD, LU, LS, LT, loadA_rf, ↓reduceIte, reduceCtorEq, Nat.reduceAdd, Nat.reduceMul, Nat.reduceSub, Nat.reduceLeDiff, Nat.reduceLT, Nat.reduceEqDiff, Int.reduceNeg, Int.reduceLT, Int.reduceLE, Int.reduceEq, Int.reduceToNat]) | ((with_reducible refine And.intro ?_ ?_); omega) | ((fail_if_success refine Wz.h ?_); simp only [D.int, D.bool]))
        exact endA rfl rfl ⟨rfl, by simp⟩
  · repeat' (first | refine Wa.h ?_ | refine Ws.h ?_ | refine Wb.h fun K hK => ?_ | ((with_reducible refine hK _ ?_); clear hK K) | ((with_reducible refine kQ ?_ ?_); kernel_rfl) | ((with_reducible refine k1 ?_ ?_); rfl) | ((with_reducible refine k0 ?_ ?_); rfl) | ((with_reducible apply kB) <;> first | rfl | intro h) | ((with_reducible refine kM ?_ ?_); rfl) | refine Wt.h (fun h => ?_) (fun h => ?_) <;> try (exfalso; omega) | refine Wu.h (fun h => ?_) (fun h => ?_) <;> try simp only [h] | ((fail_if_success refine Wz.h ?_); simp (disch := omega) only [↓LD, LU, LS, LT, loadA_rf, ↓reduceIte, reduceCtorEq, Nat.reduceAdd, Nat.reduceMul, Nat.reduceSub, Nat.reduceLeDiff, Nat.reduceLT, Nat.reduceEqDiff, Int.reduceNeg, Int.reduceLT, Int.reduceLE, Int.reduceEq, Int.reduceToNat]) | ((with_reducible refine And.intro ?_ ?_); omega) | ((fail_if_success refine Wz.h ?_); simp only [D.int, D.bool]))
    refine callW_self (c_disk_work e1 e2 n ws fuse dead works hf hw) ?_
    rintro _ _ ⟨rfl, rfl⟩
    repeat' (first | refine Wa.h ?_ | refine Ws.h ?_ | refine Wb.h fun K hK => ?_ | ((with_reducible refine hK _ ?_); clear hK K) | ((with_reducible refine kQ ?_ ?_); kernel_rfl) | ((with_reducible refine k1 ?_ ?_); rfl) | ((with_reducible refine k0 ?_ ?_); rfl) | ((with_reducible apply kB) <;> first | rfl | intro h) | ((with_reducible refine kM ?_ ?_); rfl) | refine Wt.h (fun h => ?_) (fun h => ?_) <;> try (exfalso; omega) | refine Wu.h (fun h => ?_) (fun h => ?_) <;> try simp only [h] | ((fail_if_success refine Wz.h ?_); simp (disch := omega) only [↓LD, LU, LS, LT, loadA_rf, ↓reduceIte, reduceCtorEq, Nat.reduceAdd, Nat.reduceMul, Nat.reduceSub, Nat.reduceLeDiff, Nat.reduceLT, Nat.reduceEqDiff, Int.reduceNeg, Int.reduceLT, Int.reduceLE, Int.reduceEq, Int.reduceToNat, fY, hd]) | ((with_reducible refine And.intro ?_ ?_); omega) | ((fail_if_success refine Wz.h ?_); simp only [D.int, D.bool]))
    exact endA rfl rfl ⟨rfl, by simp⟩
theorem c_disk_Append (e1 e2 : Fs) (n : Nat) (ws : List Wk) (fuse : Int) (dead : Bool) (works : Int) (B : Nat) (he : FsOk e2 B) (hB : B ≤ 1000000000) (k : Int) (hk : 0 ≤ k) (b : List UInt8) (hb : b.length ≤ 1000000000) (hn : ws.length = n) (hn2 : n ≤ 1000000)
    (hf : -1 ≤ fuse ∧ fuse ≤ 1000000) (hw : 0 ≤ works ∧ works ≤ 1000000) :
    Con Try.prog 17 [.pt 0 0, D.int k, .f (fY b)] (dkR e1 e2 n ws fuse dead works) fun r H' => r = D.int (if deadN' fuse dead = true then 14 else 0) ∧
      H' = if deadN' fuse dead = true ∨ b = [] then dkR e1 e2 n ws (fuseN fuse dead) (deadN' fuse dead) (worksN fuse dead works) else dkA e1 e2 n ws (fuseN fuse dead) (deadN' fuse dead) (worksN fuse dead works) k b :=
  c_disk_AppendG e1 e2 n ws fuse dead works B he k hk b (he.room hB hb) hn hn2 hf hw
end Go.Proofs.Ytjbkckhpoicaeaa.Mir

/- The program's disk: New, Fuse, Dead, Works, Remove, Sync. -/
namespace Go.Proofs.Ytjbkckhpoicaeaa.Mir
open Go Go.RowKit
set_option linter.unusedVariables false
set_option linter.unusedSimpArgs false
set_option maxHeartbeats 2000000

/-- Arguments may be known less. -/
theorem Con.args {P : Program} {f : FuncId} {args args0 : List D} {H : List Row} {Q : D → List Row → Prop} (h : Con P f args0 H Q) (ha : ∀ (w : World) (φ : Nat → Nat × Nat) (A : Nat → Prop) (N : Nat) (vs : List Value), Rs P w φ A N args vs → Rs P w φ A N args0 vs) : Con P f args H Q :=
  ⟨h.1, fun w φ X vs hH hv => h.2 w φ X vs hH (ha _ _ _ _ _ hv)⟩
/-- What is sound is a contract. -/
theorem Con.sound {P : Program} {f : FuncId} {g : List D → List Row → Option Eff} (hs : Sound P f g) (hf : ∃ fn, P.funcs[f]? = some fn ∧ fn.body.isSome = true) {args : List D} {H : List Row} {e : Eff} (h : g args H = some e) : Con P f args H fun r H' => r = e.res ∧ H' = e.heap H :=
  ⟨hf, fun w φ X vs hH ha => (hs args H e h w φ X vs hH ha).mono fun _ _ ⟨v, h1, h2⟩ => ⟨v, e.res, e.heap H, h1, ⟨rfl, rfl⟩, LeavesW.of h2⟩⟩
theorem has_of {P : Program} {f : FuncId} (h : ((P.funcs[f]?).bind fun fn => fn.body).isSome = true) : ∃ fn, P.funcs[f]? = some fn ∧ fn.body.isSome = true := by
  cases hf : P.funcs[f]? with
  | none => rw [hf] at h; cases h
  | some fn => rw [hf] at h; exact ⟨fn, rfl, h⟩
/-- A row that is laid down for good as it is handed over. -/
theorem Con.frz {P : Program} {f : FuncId} {la lb : List D} {H : List Row} {r n b : Nat} {T : TypeId} {xs : List F} {z : List Value} {Q : D → List Row → Prop} (hr : H[r]? = some (.data T xs)) (hi : inf P T = some (1, b, z)) (hn : xs.length = n + 1)
    (h : Con P f (la ++ .f (.s xs (n + 1)) :: lb) (H.set r (.froz T xs)) Q) : Con P f (la ++ .sl r 0 (n + 1) :: lb) H Q := by
  refine ⟨h.1, fun w φ X vs hH hv => ?_⟩
  obtain ⟨g1, g2, g3, g4⟩ := hH.freeze hr
  have hfz : freeze1 P H (.sl r 0 (n + 1)) = some (.s xs (n + 1), [(r, .froz T xs)]) := by
    have h1 : ¬ (n + 1 = 0) := by omega
    have h2 : 0 + (n + 1) * 1 ≤ xs.length := by omega
    have h3 : (xs.drop 0).take ((n + 1) * 1) = xs := by rw [List.drop_zero, Nat.mul_one, ← hn, List.take_length]
    simp only [freeze1, hr, hi, h3, if_neg h1, if_pos h2]
  have hlen : (H.set r (.froz T xs)).length = H.length := List.length_set
  have hargs : Rs P w φ (Av X φ (H.set r (.froz T xs))) (H.set r (.froz T xs)).length (la ++ .f (.s xs (n + 1)) :: lb) vs.toList := by
    obtain ⟨h1, h2⟩ := hv
    refine ⟨by rw [h1]; simp, fun i d u hd hu => ?_⟩
    rw [hlen]
    have old : ∀ d', (la ++ .sl r 0 (n + 1) :: lb)[i]? = some d' → R P w φ (Av X φ (H.set r (.froz T xs))) H.length d' u := by
      intro d' hd'
      refine (h2 i d' u hd' hu).keep (L := fun _ => False) (Keep.refl _ _) (fun _ h => h.elim) g2 (fun _ _ => rfl) (Nat.le_refl _)
    by_cases hi' : i < la.length
    · rw [List.getElem?_append_left hi'] at hd
      exact old d (by rw [List.getElem?_append_left hi']; exact hd)
    · rw [List.getElem?_append_right (by omega)] at hd
      rcases hj : i - la.length with _ | j
      · rw [hj] at hd
        cases hd
        have := h2 i (.sl r 0 (n + 1)) u (by rw [List.getElem?_append_right (by omega), hj]; rfl) hu
        exact .f (freeze1_ok hH this hfz).2
      · rw [hj] at hd
        exact old d (by rw [List.getElem?_append_right (by omega), hj]; exact hd)
  refine (h.2 w φ X vs g1 hargs).mono ?_
  rintro en w' ⟨v, d, H', h1, h2, φ', ho, hh, hd⟩
  refine ⟨v, d, H', h1, h2, φ', ⟨?_, ?_, ho.keep.mono (fun b _ hb => g4 b hb), fun b hb => ?_⟩, hh, hd⟩
  · rw [← hlen]; exact ho.len
  · intro s hs; exact ho.same s (by rw [hlen]; exact hs)
  · rcases ho.fresh b hb with h | h
    · exact .inl (g4 b h)
    · exact .inr h

theorem c_disk_New : Con Try.prog 14 [] [] fun r H' => r = .pt 0 0 ∧ H' = dkR [] [] 0 [] (-1) false 0 := by
  refine Con.walk good fn_disk_New (by simp) ?_
  unfold s_disk_New
  simp only [argsE, List.length_cons, List.length_nil, Nat.reduceAdd]
  repeat' (first | refine Wa.h ?_ | refine Ws.h ?_ | refine Wb.h fun K hK => ?_ | ((with_reducible refine hK _ ?_); clear hK K) | ((with_reducible refine kQ ?_ ?_); kernel_rfl) | ((with_reducible refine k1 ?_ ?_); rfl) | ((with_reducible refine k0 ?_ ?_); rfl) | ((with_reducible apply kB) <;> first | rfl | intro h) | ((with_reducible refine kM ?_ ?_); rfl) | refine Wt.h (fun h => ?_) (fun h => ?_) <;> try (exfalso; omega) | refine Wu.h (fun h => ?_) (fun h => ?_) <;> try simp only [h] | ((fail_if_success refine Wz.h ?_); simp (disch := omega) only [↓LD, LU, LS, LT, loadA_rf, ↓reduceIte, reduceCtorEq, Nat.reduceAdd, Nat.reduceMul, Nat.reduceSub, Nat.reduceLeDiff, Nat.reduceLT, Nat.reduceEqDiff, Int.reduceNeg, Int.reduceLT, Int.reduceLE, Int.reduceEq, Int.reduceToNat]) | ((with_reducible refine And.intro ?_ ?_); omega) | ((fail_if_success refine Wz.h ?_); simp only [D.int, D.bool]))
  exact endG rfl rfl (ef := ⟨.pt 0 0, [], dkR [] [] 0 [] (-1) false 0⟩) (by kernel_rfl) ⟨rfl, rfl⟩
theorem c_disk_Fuse (e1 e2 : Fs) (n : Nat) (ws : List Wk) (fuse : Int) (dead : Bool) (works : Int) (x : Int) (hx : 0 ≤ x) :
    Con Try.prog 26 [.pt 0 0, D.int x] (dkR e1 e2 n ws fuse dead works) fun r H' => r = .tp [] ∧ H' = dkR e1 e2 n ws x dead works := by
  refine Con.walk good fn_disk_Fuse (by simp) ?_
  unfold s_disk_Fuse
  simp only [argsE, List.length_cons, List.length_nil, Nat.reduceAdd]
  have hm : max x (-1) = x := by omega
  rcases n with _ | n
  · repeat' (first | refine Wa.h ?_ | refine Ws.h ?_ | refine Wb.h fun K hK => ?_ | ((with_reducible refine hK _ ?_); clear hK K) | ((with_reducible refine kQ ?_ ?_); kernel_rfl) | ((with_reducible refine k1 ?_ ?_); rfl) | ((with_reducible refine k0 ?_ ?_); rfl) | ((with_reducible apply kB) <;> first | rfl | intro h) | ((with_reducible refine kM ?_ ?_); rfl) | refine Wt.h (fun h => ?_) (fun h => ?_) <;> try (exfalso; omega) | refine Wu.h (fun h => ?_) (fun h => ?_) <;> try simp only [h] | ((fail_if_success refine Wz.h ?_); simp (disch := omega) only [↓LD, LU, LS, LT, loadA_rf, ↓reduceIte, reduceCtorEq, Nat.reduceAdd, Nat.reduceMul, Nat.reduceSub, Nat.reduceLeDiff, Nat.reduceLT, Nat.reduceEqDiff, Int.reduceNeg, Int.reduceLT, Int.reduceLE, Int.reduceEq, Int.reduceToNat, dkR, dkB, dkP, hm]) | ((with_reducible refine And.intro ?_ ?_); omega) | ((fail_if_success refine Wz.h ?_); simp only [D.int, D.bool]))
    exact end0 ⟨rfl, rfl⟩
  · repeat' (first | refine Wa.h ?_ | refine Ws.h ?_ | refine Wb.h fun K hK => ?_ | ((with_reducible refine hK _ ?_); clear hK K) | ((with_reducible refine kQ ?_ ?_); kernel_rfl) | ((with_reducible refine k1 ?_ ?_); rfl) | ((with_reducible refine k0 ?_ ?_); rfl) | ((with_reducible apply kB) <;> first | rfl | intro h) | ((with_reducible refine kM ?_ ?_); rfl) | refine Wt.h (fun h => ?_) (fun h => ?_) <;> try (exfalso; omega) | refine Wu.h (fun h => ?_) (fun h => ?_) <;> try simp only [h] | ((fail_if_success refine Wz.h ?_); simp (disch := omega) only [↓LD, LU, LS, LT, loadA_rf, ↓reduceIte, reduceCtorEq, Nat.reduceAdd, Nat.reduceMul, Nat.reduceSub, Nat.reduceLeDiff, Nat.reduceLT, Nat.reduceEqDiff, Int.reduceNeg, Int.reduceLT, Int.reduceLE, Int.reduceEq, Int.reduceToNat, dkR, dkB, dkP, hm]) | ((with_reducible refine And.intro ?_ ?_); omega) | ((fail_if_success refine Wz.h ?_); simp only [D.int, D.bool]))
    exact end0 ⟨rfl, rfl⟩
theorem c_disk_Dead (e1 e2 : Fs) (n : Nat) (ws : List Wk) (fuse : Int) (dead : Bool) (works : Int) :
    Con Try.prog 29 [.pt 0 0] (dkR e1 e2 n ws fuse dead works) fun r H' => r = D.bool dead ∧ H' = dkR e1 e2 n ws fuse dead works := by
  refine Con.walk good fn_disk_Dead (by simp) ?_
  unfold s_disk_Dead
  simp only [argsE, List.length_cons, List.length_nil, Nat.reduceAdd]
  rcases n with _ | n
  · repeat' (first | refine Wa.h ?_ | refine Ws.h ?_ | refine Wb.h fun K hK => ?_ | ((with_reducible refine hK _ ?_); clear hK K) | ((with_reducible refine kQ ?_ ?_); kernel_rfl) | ((with_reducible refine k1 ?_ ?_); rfl) | ((with_reducible refine k0 ?_ ?_); rfl) | ((with_reducible apply kB) <;> first | rfl | intro h) | ((with_reducible refine kM ?_ ?_); rfl) | refine Wt.h (fun h => ?_) (fun h => ?_) <;> try (exfalso; omega) | refine Wu.h (fun h => ?_) (fun h => ?_) <;> try simp only [h] | ((fail_if_success refine Wz.h ?_); simp (disch := omega) only [↓LD, LU, LS, LT, loadA_rf, ↓reduceIte, reduceCtorEq, Nat.reduceAdd, Nat.reduceMul, Nat.reduceSub, Nat.reduceLeDiff, Nat.reduceLT, Nat.reduceEqDiff, Int.reduceNeg, Int.reduceLT, Int.reduceLE, Int.reduceEq, Int.reduceToNat, dkR, dkB, dkP]) | ((with_reducible refine And.intro ?_ ?_); omega) | ((fail_if_success refine Wz.h ?_); simp only [D.int, D.bool]))
    exact endA rfl rfl ⟨rfl, rfl⟩
  · repeat' (first | refine Wa.h ?_ | refine Ws.h ?_ | refine Wb.h fun K hK => ?_ | ((with_reducible refine hK _ ?_); clear hK K) | ((with_reducible refine kQ ?_ ?_); kernel_rfl) | ((with_reducible refine k1 ?_ ?_); rfl) | ((with_reducible refine k0 ?_ ?_); rfl) | ((with_reducible apply kB) <;> first | rfl | intro h) | ((with_reducible refine kM ?_ ?_); rfl) | refine Wt.h (fun h => ?_) (fun h => ?_) <;> try (exfalso; omega) | refine Wu.h (fun h => ?_) (fun h => ?_) <;> try simp only [h] | ((fail_if_success refine Wz.h ?_); simp (disch := omega) only [↓LD, LU, LS, LT, loadA_rf, ↓reduceIte, reduceCtorEq, Nat.reduceAdd, Nat.reduceMul, Nat.reduceSub, Nat.reduceLeDiff, Nat.reduceLT, Nat.reduceEqDiff, Int.reduceNeg, Int.reduceLT, Int.reduceLE, Int.reduceEq, Int.reduceToNat, dkR, dkB, dkP]) | ((with_reducible refine And.intro ?_ ?_); omega) | ((fail_if_success refine Wz.h ?_); simp only [D.int, D.bool]))
    exact endA rfl rfl ⟨rfl, rfl⟩
theorem c_disk_Works (e1 e2 : Fs) (n : Nat) (ws : List Wk) (fuse : Int) (dead : Bool) (works : Int) :
    Con Try.prog 30 [.pt 0 0] (dkR e1 e2 n ws fuse dead works) fun r H' => r = D.int works ∧ H' = dkR e1 e2 n ws fuse dead works := by
  refine Con.walk good fn_disk_Works (by simp) ?_
  unfold s_disk_Works
  simp only [argsE, List.length_cons, List.length_nil, Nat.reduceAdd]
  rcases n with _ | n
  · repeat' (first | refine Wa.h ?_ | refine Ws.h ?_ | refine Wb.h fun K hK => ?_ | ((with_reducible refine hK _ ?_); clear hK K) | ((with_reducible refine kQ ?_ ?_); kernel_rfl) | ((with_reducible refine k1 ?_ ?_); rfl) | ((with_reducible refine k0 ?_ ?_); rfl) | ((with_reducible apply kB) <;> first | rfl | intro h) | ((with_reducible refine kM ?_ ?_); rfl) | refine Wt.h (fun h => ?_) (fun h => ?_) <;> try (exfalso; omega) | refine Wu.h (fun h => ?_) (fun h => ?_) <;> try simp only [h] | ((fail_if_success refine Wz.h ?_); simp (disch := omega) only [↓LD, LU, LS, LT, loadA_rf, ↓reduceIte, reduceCtorEq, Nat.reduceAdd, Nat.reduceMul, Nat.reduceSub, Nat.reduceLeDiff, Nat.reduceLT, Nat.reduceEqDiff, Int.reduceNeg, Int.reduceLT, Int.reduceLE, Int.reduceEq, Int.reduceToNat, dkR, dkB, dkP]) | ((with_reducible refine And.intro ?_ ?_); omega) | ((fail_if_success refine Wz.h ?_); simp only [D.int, D.bool]))
    exact endA rfl rfl ⟨rfl, rfl⟩
  · repeat' (first | refine Wa.h ?_ | refine Ws.h ?_ | refine Wb.h fun K hK => ?_ | ((with_reducible refine hK _ ?_); clear hK K) | ((with_reducible refine kQ ?_ ?_); kernel_rfl) | ((with_reducible refine k1 ?_ ?_); rfl) | ((with_reducible refine k0 ?_ ?_); rfl) | ((with_reducible apply kB) <;> first | rfl | intro h) | ((with_reducible refine kM ?_ ?_); rfl) | refine Wt.h (fun h => ?_) (fun h => ?_) <;> try (exfalso; omega) | refine Wu.h (fun h => ?_) (fun h => ?_) <;> try simp only [h] | ((fail_if_success refine Wz.h ?_); simp (disch := omega) only [↓LD, LU, LS, LT, loadA_rf, ↓reduceIte, reduceCtorEq, Nat.reduceAdd, Nat.reduceMul, Nat.reduceSub, Nat.reduceLeDiff, Nat.reduceLT, Nat.reduceEqDiff, Int.reduceNeg, Int.reduceLT, Int.reduceLE, Int.reduceEq, Int.reduceToNat, dkR, dkB, dkP]) | ((with_reducible refine And.intro ?_ ?_); omega) | ((fail_if_success refine Wz.h ?_); simp only [D.int, D.bool]))
    exact endA rfl rfl ⟨rfl, rfl⟩

theorem FsOk.room0 {l : Fs} {B : Nat} (h : FsOk l B) (hB : B ≤ 140737488355328) {k : Int} : ((fGet l k).getD []).length + ([] : List UInt8).length ≤ 140737488355328 := by
  cases hg : fGet l k with
  | none => simp
  | some y => have := (h.get hg).2; simp; omega
theorem c_put0 (e1 e2 : Fs) (n : Nat) (ws : List Wk) (fuse : Int) (dead : Bool) (works : Int) (B : Nat) (he : FsOk e2 B) (hB : B ≤ 140737488355328) (k : Int) (hn : ws.length = n) (hn2 : n ≤ 1000000) :
    Con Try.prog 49 [.pt 0 0, .ag [D.int k, .f (.v (.slice none 0 0))]] (dkR e1 e2 n ws fuse dead works) fun r H' => r = .tp [] ∧ H' = dkA e1 e2 n ws fuse dead works k [] := by
  refine (c_put e1 e2 n ws fuse dead works B he k [] (he.room0 hB) hn hn2).args ?_
  rintro w φ A N vs ⟨h1, h2⟩
  refine ⟨h1, fun i d u hd hu => ?_⟩
  match i, hd with
  | 0, hd => exact h2 0 d u hd hu
  | 1, hd =>
    cases hd
    have := h2 1 _ u rfl hu
    cases this with | ag hs hr ho =>
    refine .ag hs (fun j d u hd hu => ?_) ho
    match j, hd with
    | 0, hd => exact hr 0 d u hd hu
    | 1, hd =>
      cases hd
      have := hr 1 _ u rfl hu
      cases this with | f h => cases h with | v _ => exact .f .s0
/-- The rows behind a Sync. -/
def dkS (e1 e2 : Fs) (n : Nat) (ws : List Wk) (fuse : Int) (dead : Bool) (works : Int) : List Row := match n with
  | 0 => [.box 76 [.mp 3, .mp 2, .f (.v (.slice none 0 0)), D.int fuse, D.bool dead, D.int works], .map (mF e1), .map (mF e2), .map (mF e2)]
  | _ + 1 => [.box 76 [.mp 4, .mp 2, .f (.v (.slice none 0 0)), D.int fuse, D.bool dead, D.int works], .map (mF e1), .map (mF e2), .data 79 (ws.flatMap Wk.cs), .map (mF e2)]
theorem c_mapClone (l : Fs) : Con Try.prog 51 [.mp 0] [.map (mF l)] fun r H' => r = .mp 1 ∧ H' = [.map (mF l), .map (mF l)] :=
  (Con.sound clone_ok (has_of (by kernel_rfl)) (args := [.mp 0]) (H := [.map (mF l)]) (e := ⟨.mp 1, [], [.map (mF l)]⟩) rfl).mono fun _ _ h => h
set_option maxRecDepth 100000 in
theorem c_disk_Sync (e1 e2 : Fs) (n : Nat) (ws : List Wk) (fuse : Int) (dead : Bool) (works : Int) (hf : -1 ≤ fuse ∧ fuse ≤ 1000000) (hw : 0 ≤ works ∧ works ≤ 1000000) :
    Con Try.prog 18 [.pt 0 0] (dkR e1 e2 n ws fuse dead works) fun r H' => r = D.int (if deadN' fuse dead = true then 14 else 0) ∧
      H' = if deadN' fuse dead = true then dkR e1 e2 n ws (fuseN fuse dead) (deadN' fuse dead) (worksN fuse dead works) else dkS e1 e2 n ws (fuseN fuse dead) (deadN' fuse dead) (worksN fuse dead works) := by
  refine Con.walk good fn_disk_Sync (by simp) ?_
  unfold s_disk_Sync
  simp only [argsE, List.length_cons, List.length_nil, Nat.reduceAdd]
  cases hd : deadN' fuse dead
  · rcases n with _ | n
    · repeat' (first | refine Wa.h ?_ | refine Ws.h ?_ | refine Wb.h fun K hK => ?_ | ((with_reducible refine hK _ ?_); clear hK K) | ((with_reducible refine kQ ?_ ?_); kernel_rfl) | ((with_reducible refine k1 ?_ ?_); rfl) | ((with_reducible refine k0 ?_ ?_); rfl) | ((with_reducible apply kB) <;> first | rfl | intro h) | ((with_reducible refine kM ?_ ?_); rfl) | refine Wt.h (fun h => ?_) (fun h => ?_) <;> try (exfalso; omega) | refine Wu.h (fun h => ?_) (fun h => ?_) <;> try simp only [h] | ((fail_if_success refine Wz.h ?_); simp (disch := omega) only [↓LD, LU, LS, LT, loadA_rf, ↓reduceIte, reduceCtorEq, Nat.reduceAdd, Nat.reduceMul, Nat.reduceSub, Nat.reduceLeDiff, Nat.reduceLT, Nat.reduceEqDiff, Int.reduceNeg, Int.reduceLT, Int.reduceLE, Int.reduceEq, Int.reduceToNat]) | ((with_reducible refine And.intro ?_ ?_); omega) | ((fail_if_success refine Wz.h ?_); simp only [D.int, D.bool]))
      refine callW_self (c_disk_work e1 e2 0 ws fuse dead works hf hw) ?_
      rintro _ _ ⟨rfl, rfl⟩
      repeat' (first | refine Wa.h ?_ | refine Ws.h ?_ | refine Wb.h fun K hK => ?_ | ((with_reducible refine hK _ ?_); clear hK K) | ((with_reducible refine kQ ?_ ?_); kernel_rfl) | ((with_reducible refine k1 ?_ ?_); rfl) | ((with_reducible refine k0 ?_ ?_); rfl) | ((with_reducible apply kB) <;> first | rfl | intro h) | ((with_reducible refine kM ?_ ?_); rfl) | refine Wt.h (fun h => ?_) (fun h => ?_) <;> try (exfalso; omega) | refine Wu.h (fun h => ?_) (fun h => ?_) <;> try simp only [h] | ((fail_if_success refine Wz.h ?_); simp (disch := omega) only [↓LD, LU, LS, LT, loadA_rf, ↓reduceIte, reduceCtorEq, Nat.reduceAdd, Nat.reduceMul, Nat.reduceSub, Nat.reduceLeDiff, Nat.reduceLT, Nat.reduceEqDiff, Int.reduceNeg, Int.reduceLT, Int.reduceLE, Int.reduceEq, Int.reduceToNat, hd, dkR, dkB, dkP]) | ((with_reducible refine And.intro ?_ ?_); omega) | ((fail_if_success refine Wz.h ?_); simp only [D.int, D.bool]))
      refine callW_emb (c_mapClone e2) [2] (by kernel_rfl) rfl rfl ?_
      rintro _ _ ⟨rfl, rfl⟩
      repeat' (first | refine Wa.h ?_ | refine Ws.h ?_ | refine Wb.h fun K hK => ?_ | ((with_reducible refine hK _ ?_); clear hK K) | ((with_reducible refine kQ ?_ ?_); kernel_rfl) | ((with_reducible refine k1 ?_ ?_); rfl) | ((with_reducible refine k0 ?_ ?_); rfl) | ((with_reducible apply kB) <;> first | rfl | intro h) | ((with_reducible refine kM ?_ ?_); rfl) | refine Wt.h (fun h => ?_) (fun h => ?_) <;> try (exfalso; omega) | refine Wu.h (fun h => ?_) (fun h => ?_) <;> try simp only [h] | ((fail_if_success refine Wz.h ?_); simp (disch := omega) only [↓LD, LU, LS, LT, loadA_rf, ↓reduceIte, reduceCtorEq, Nat.reduceAdd, Nat.reduceMul, Nat.reduceSub, Nat.reduceLeDiff, Nat.reduceLT, Nat.reduceEqDiff, Int.reduceNeg, Int.reduceLT, Int.reduceLE, Int.reduceEq, Int.reduceToNat]) | ((with_reducible refine And.intro ?_ ?_); omega) | ((fail_if_success refine Wz.h ?_); simp only [D.int, D.bool]))
      exact endA rfl rfl ⟨rfl, rfl⟩
    · repeat' (first | refine Wa.h ?_ | refine Ws.h ?_ | refine Wb.h fun K hK => ?_ | ((with_reducible refine hK _ ?_); clear hK K) | ((with_reducible refine kQ ?_ ?_); kernel_rfl) | ((with_reducible refine k1 ?_ ?_); rfl) | ((with_reducible refine k0 ?_ ?_); rfl) | ((with_reducible apply kB) <;> first | rfl | intro h) | ((with_reducible refine kM ?_ ?_); rfl) | refine Wt.h (fun h => ?_) (fun h => ?_) <;> try (exfalso; omega) | refine Wu.h (fun h => ?_) (fun h => ?_) <;> try simp only [h] | ((fail_if_success refine Wz.h ?_); simp (disch := omega) only [↓LD, LU, LS, LT, loadA_rf, ↓reduceIte, reduceCtorEq, Nat.reduceAdd, Nat.reduceMul, Nat.reduceSub, Nat.reduceLeDiff, Nat.reduceLT, Nat.reduceEqDiff, Int.reduceNeg, Int.reduceLT, Int.reduceLE, Int.reduceEq, Int.reduceToNat]) | ((with_reducible refine And.intro ?_ ?_); omega) | ((fail_if_success refine Wz.h ?_); simp only [D.int, D.bool]))
      refine callW_self (c_disk_work e1 e2 (n + 1) ws fuse dead works hf hw) ?_
      rintro _ _ ⟨rfl, rfl⟩
      repeat' (first | refine Wa.h ?_ | refine Ws.h ?_ | refine Wb.h fun K hK => ?_ | ((with_reducible refine hK _ ?_); clear hK K) | ((with_reducible refine kQ ?_ ?_); kernel_rfl) | ((with_reducible refine k1 ?_ ?_); rfl) | ((with_reducible refine k0 ?_ ?_); rfl) | ((with_reducible apply kB) <;> first | rfl | intro h) | ((with_reducible refine kM ?_ ?_); rfl) | refine Wt.h (fun h => ?_) (fun h => ?_) <;> try (exfalso; omega) | refine Wu.h (fun h => ?_) (fun h => ?_) <;> try simp only [h] | ((fail_if_success refine Wz.h ?_); simp (disch := omega) only [↓LD, LU, LS, LT, loadA_rf, ↓reduceIte, reduceCtorEq, Nat.reduceAdd, Nat.reduceMul, Nat.reduceSub, Nat.reduceLeDiff, Nat.reduceLT, Nat.reduceEqDiff, Int.reduceNeg, Int.reduceLT, Int.reduceLE, Int.reduceEq, Int.reduceToNat, hd, dkR, dkB, dkP]) | ((with_reducible refine And.intro ?_ ?_); omega) | ((fail_if_success refine Wz.h ?_); simp only [D.int, D.bool]))
      refine callW_emb (c_mapClone e2) [2] (by kernel_rfl) rfl rfl ?_
      rintro _ _ ⟨rfl, rfl⟩
      repeat' (first | refine Wa.h ?_ | refine Ws.h ?_ | refine Wb.h fun K hK => ?_ | ((with_reducible refine hK _ ?_); clear hK K) | ((with_reducible refine kQ ?_ ?_); kernel_rfl) | ((with_reducible refine k1 ?_ ?_); rfl) | ((with_reducible refine k0 ?_ ?_); rfl) | ((with_reducible apply kB) <;> first | rfl | intro h) | ((with_reducible refine kM ?_ ?_); rfl) | refine Wt.h (fun h => ?_) (fun h => ?_) <;> try (exfalso; omega) | refine Wu.h (fun h => ?_) (fun h => ?_) <;> try simp only [h] | ((fail_if_success refine Wz.h ?_); simp (disch := omega) only [↓LD, LU, LS, LT, loadA_rf, ↓reduceIte, reduceCtorEq, Nat.reduceAdd, Nat.reduceMul, Nat.reduceSub, Nat.reduceLeDiff, Nat.reduceLT, Nat.reduceEqDiff, Int.reduceNeg, Int.reduceLT, Int.reduceLE, Int.reduceEq, Int.reduceToNat]) | ((with_reducible refine And.intro ?_ ?_); omega) | ((fail_if_success refine Wz.h ?_); simp only [D.int, D.bool]))
      exact endA rfl rfl ⟨rfl, rfl⟩
  · repeat' (first | refine Wa.h ?_ | refine Ws.h ?_ | refine Wb.h fun K hK => ?_ | ((with_reducible refine hK _ ?_); clear hK K) | ((with_reducible refine kQ ?_ ?_); kernel_rfl) | ((with_reducible refine k1 ?_ ?_); rfl) | ((with_reducible refine k0 ?_ ?_); rfl) | ((with_reducible apply kB) <;> first | rfl | intro h) | ((with_reducible refine kM ?_ ?_); rfl) | refine Wt.h (fun h => ?_) (fun h => ?_) <;> try (exfalso; omega) | refine Wu.h (fun h => ?_) (fun h => ?_) <;> try simp only [h] | ((fail_if_success refine Wz.h ?_); simp (disch := omega) only [↓LD, LU, LS, LT, loadA_rf, ↓reduceIte, reduceCtorEq, Nat.reduceAdd, Nat.reduceMul, Nat.reduceSub, Nat.reduceLeDiff, Nat.reduceLT, Nat.reduceEqDiff, Int.reduceNeg, Int.reduceLT, Int.reduceLE, Int.reduceEq, Int.reduceToNat]) | ((with_reducible refine And.intro ?_ ?_); omega) | ((fail_if_success refine Wz.h ?_); simp only [D.int, D.bool]))
    refine callW_self (c_disk_work e1 e2 n ws fuse dead works hf hw) ?_
    rintro _ _ ⟨rfl, rfl⟩
    repeat' (first | refine Wa.h ?_ | refine Ws.h ?_ | refine Wb.h fun K hK => ?_ | ((with_reducible refine hK _ ?_); clear hK K) | ((with_reducible refine kQ ?_ ?_); kernel_rfl) | ((with_reducible refine k1 ?_ ?_); rfl) | ((with_reducible refine k0 ?_ ?_); rfl) | ((with_reducible apply kB) <;> first | rfl | intro h) | ((with_reducible refine kM ?_ ?_); rfl) | refine Wt.h (fun h => ?_) (fun h => ?_) <;> try (exfalso; omega) | refine Wu.h (fun h => ?_) (fun h => ?_) <;> try simp only [h] | ((fail_if_success refine Wz.h ?_); simp (disch := omega) only [↓LD, LU, LS, LT, loadA_rf, ↓reduceIte, reduceCtorEq, Nat.reduceAdd, Nat.reduceMul, Nat.reduceSub, Nat.reduceLeDiff, Nat.reduceLT, Nat.reduceEqDiff, Int.reduceNeg, Int.reduceLT, Int.reduceLE, Int.reduceEq, Int.reduceToNat, hd]) | ((with_reducible refine And.intro ?_ ?_); omega) | ((fail_if_success refine Wz.h ?_); simp only [D.int, D.bool]))
    exact endA rfl rfl ⟨rfl, rfl⟩
set_option maxRecDepth 100000 in
theorem c_disk_Remove (e1 e2 : Fs) (n : Nat) (ws : List Wk) (fuse : Int) (dead : Bool) (works : Int) (B : Nat) (he : FsOk e2 B) (hB : B ≤ 140737488355328) (k : Int) (hk : 0 ≤ k) (hn : ws.length = n) (hn2 : n ≤ 1000000)
    (hf : -1 ≤ fuse ∧ fuse ≤ 1000000) (hw : 0 ≤ works ∧ works ≤ 1000000) :
    Con Try.prog 16 [.pt 0 0, D.int k] (dkR e1 e2 n ws fuse dead works) fun r H' => r = D.int (if deadN' fuse dead = true then 14 else 0) ∧
      H' = if deadN' fuse dead = true ∨ fGet e2 k = none then dkR e1 e2 n ws (fuseN fuse dead) (deadN' fuse dead) (worksN fuse dead works) else dkA e1 e2 n ws (fuseN fuse dead) (deadN' fuse dead) (worksN fuse dead works) k [] := by
  refine Con.walk good fn_disk_Remove (by simp) ?_
  unfold s_disk_Remove
  simp only [argsE, List.length_cons, List.length_nil, Nat.reduceAdd]
  cases hd : deadN' fuse dead
  · cases hg : fGet e2 k with
    | none =>
      rcases n with _ | n
      · repeat' (first | refine Wa.h ?_ | refine Ws.h ?_ | refine Wb.h fun K hK => ?_ | ((with_reducible refine hK _ ?_); clear hK K) | ((with_reducible refine kQ ?_ ?_); kernel_rfl) | ((with_reducible refine k1 ?_ ?_); rfl) | ((with_reducible refine k0 ?_ ?_); rfl) | ((with_reducible apply kB) <;> first | rfl | intro h) | ((with_reducible refine kM ?_ ?_); rfl) | refine Wt.h (fun h => ?_) (fun h => ?_) <;> try (exfalso; omega) | refine Wu.h (fun h => ?_) (fun h => ?_) <;> try simp only [h] | ((fail_if_success refine Wz.h ?_); simp (disch := omega) only [↓LD, LU, LS, LT, loadA_rf, ↓reduceIte, reduceCtorEq, Nat.reduceAdd, Nat.reduceMul, Nat.reduceSub, Nat.reduceLeDiff, Nat.reduceLT, Nat.reduceEqDiff, Int.reduceNeg, Int.reduceLT, Int.reduceLE, Int.reduceEq, Int.reduceToNat]) | ((with_reducible refine And.intro ?_ ?_); omega) | ((fail_if_success refine Wz.h ?_); simp only [D.int, D.bool]))
        refine callW_self (c_disk_work e1 e2 0 ws fuse dead works hf hw) ?_
        rintro _ _ ⟨rfl, rfl⟩
        repeat' (first | refine Wa.h ?_ | refine Ws.h ?_ | refine Wb.h fun K hK => ?_ | ((with_reducible refine hK _ ?_); clear hK K) | ((with_reducible refine kQ ?_ ?_); kernel_rfl) | ((with_reducible refine k1 ?_ ?_); rfl) | ((with_reducible refine k0 ?_ ?_); rfl) | ((with_reducible apply kB) <;> first | rfl | intro h) | ((with_reducible refine kM ?_ ?_); rfl) | refine Wt.h (fun h => ?_) (fun h => ?_) <;> try (exfalso; omega) | refine Wu.h (fun h => ?_) (fun h => ?_) <;> try simp only [h] | ((fail_if_success refine Wz.h ?_); simp (disch := omega) only [↓LD, LU, LS, LT, loadA_rf, ↓reduceIte, reduceCtorEq, Nat.reduceAdd, Nat.reduceMul, Nat.reduceSub, Nat.reduceLeDiff, Nat.reduceLT, Nat.reduceEqDiff, Int.reduceNeg, Int.reduceLT, Int.reduceLE, Int.reduceEq, Int.reduceToNat, hd, dkR, dkB, dkP]) | ((with_reducible refine And.intro ?_ ?_); omega) | ((fail_if_success refine Wz.h ?_); simp only [D.int, D.bool]))
        refine bind'_of (look_mF rfl) ?_
        rw [hg]
        repeat' (first | refine Wa.h ?_ | refine Ws.h ?_ | refine Wb.h fun K hK => ?_ | ((with_reducible refine hK _ ?_); clear hK K) | ((with_reducible refine kQ ?_ ?_); kernel_rfl) | ((with_reducible refine k1 ?_ ?_); rfl) | ((with_reducible refine k0 ?_ ?_); rfl) | ((with_reducible apply kB) <;> first | rfl | intro h) | ((with_reducible refine kM ?_ ?_); rfl) | refine Wt.h (fun h => ?_) (fun h => ?_) <;> try (exfalso; omega) | refine Wu.h (fun h => ?_) (fun h => ?_) <;> try simp only [h] | ((fail_if_success refine Wz.h ?_); simp (disch := omega) only [↓LD, LU, LS, LT, loadA_rf, ↓reduceIte, reduceCtorEq, Nat.reduceAdd, Nat.reduceMul, Nat.reduceSub, Nat.reduceLeDiff, Nat.reduceLT, Nat.reduceEqDiff, Int.reduceNeg, Int.reduceLT, Int.reduceLE, Int.reduceEq, Int.reduceToNat, orN]) | ((with_reducible refine And.intro ?_ ?_); omega) | ((fail_if_success refine Wz.h ?_); simp only [D.int, D.bool]))
        exact endA rfl rfl ⟨rfl, rfl⟩
      · repeat' (first | refine Wa.h ?_ | refine Ws.h ?_ | refine Wb.h fun K hK => ?_ | ((with_reducible refine hK _ ?_); clear hK K) | ((with_reducible refine kQ ?_ ?_); kernel_rfl) | ((with_reducible refine k1 ?_ ?_); rfl) | ((with_reducible refine k0 ?_ ?_); rfl) | ((with_reducible apply kB) <;> first | rfl | intro h) | ((with_reducible refine kM ?_ ?_); rfl) | refine Wt.h (fun h => ?_) (fun h => ?_) <;> try (exfalso; omega) | refine Wu.h (fun h => ?_) (fun h => ?_) <;> try simp only [h] | ((fail_if_success refine Wz.h ?_); simp (disch := omega) only [↓LD, LU, LS, LT, loadA_rf, ↓reduceIte, reduceCtorEq, Nat.reduceAdd, Nat.reduceMul, Nat.reduceSub, Nat.reduceLeDiff, Nat.reduceLT, Nat.reduceEqDiff, Int.reduceNeg, Int.reduceLT, Int.reduceLE, Int.reduceEq, Int.reduceToNat]) | ((with_reducible refine And.intro ?_ ?_); omega) | ((fail_if_success refine Wz.h ?_); simp only [D.int, D.bool]))
        refine callW_self (c_disk_work e1 e2 (n + 1) ws fuse dead works hf hw) ?_
        rintro _ _ ⟨rfl, rfl⟩
        repeat' (first | refine Wa.h ?_ | refine Ws.h ?_ | refine Wb.h fun K hK => ?_ | ((with_reducible refine hK _ ?_); clear hK K) | ((with_reducible refine kQ ?_ ?_); kernel_rfl) | ((with_reducible refine k1 ?_ ?_); rfl) | ((with_reducible refine k0 ?_ ?_); rfl) | ((with_reducible apply kB) <;> first | rfl | intro h) | ((with_reducible refine kM ?_ ?_); rfl) | refine Wt.h (fun h => ?_) (fun h => ?_) <;> try (exfalso; omega) | refine Wu.h (fun h => ?_) (fun h => ?_) <;> try simp only [h] | ((fail_if_success refine Wz.h ?_); simp (disch := omega) only [↓LD, LU, LS, LT, loadA_rf, ↓reduceIte, reduceCtorEq, Nat.reduceAdd, Nat.reduceMul, Nat.reduceSub, Nat.reduceLeDiff, Nat.reduceLT, Nat.reduceEqDiff, Int.reduceNeg, Int.reduceLT, Int.reduceLE, Int.reduceEq, Int.reduceToNat, hd, dkR, dkB, dkP]) | ((with_reducible refine And.intro ?_ ?_); omega) | ((fail_if_success refine Wz.h ?_); simp only [D.int, D.bool]))
        refine bind'_of (look_mF rfl) ?_
        rw [hg]
        repeat' (first | refine Wa.h ?_ | refine Ws.h ?_ | refine Wb.h fun K hK => ?_ | ((with_reducible refine hK _ ?_); clear hK K) | ((with_reducible refine kQ ?_ ?_); kernel_rfl) | ((with_reducible refine k1 ?_ ?_); rfl) | ((with_reducible refine k0 ?_ ?_); rfl) | ((with_reducible apply kB) <;> first | rfl | intro h) | ((with_reducible refine kM ?_ ?_); rfl) | refine Wt.h (fun h => ?_) (fun h => ?_) <;> try (exfalso; omega) | refine Wu.h (fun h => ?_) (fun h => ?_) <;> try simp only [h] | ((fail_if_success refine Wz.h ?_); simp (disch := omega) only [↓LD, LU, LS, LT, loadA_rf, ↓reduceIte, reduceCtorEq, Nat.reduceAdd, Nat.reduceMul, Nat.reduceSub, Nat.reduceLeDiff, Nat.reduceLT, Nat.reduceEqDiff, Int.reduceNeg, Int.reduceLT, Int.reduceLE, Int.reduceEq, Int.reduceToNat, orN]) | ((with_reducible refine And.intro ?_ ?_); omega) | ((fail_if_success refine Wz.h ?_); simp only [D.int, D.bool]))
        exact endA rfl rfl ⟨rfl, rfl⟩
    | some y =>
      obtain ⟨h1, h2⟩ := he.get hg
      have hy : 0 < y.length := by
        cases y with
        | nil => exact absurd rfl h1
        | cons z y => simp
      rcases n with _ | n
      · repeat' (first | refine Wa.h ?_ | refine Ws.h ?_ | refine Wb.h fun K hK => ?_ | ((with_reducible refine hK _ ?_); clear hK K) | ((with_reducible refine kQ ?_ ?_); kernel_rfl) | ((with_reducible refine k1 ?_ ?_); rfl) | ((with_reducible refine k0 ?_ ?_); rfl) | ((with_reducible apply kB) <;> first | rfl | intro h) | ((with_reducible refine kM ?_ ?_); rfl) | refine Wt.h (fun h => ?_) (fun h => ?_) <;> try (exfalso; omega) | refine Wu.h (fun h => ?_) (fun h => ?_) <;> try simp only [h] | ((fail_if_success refine Wz.h ?_); simp (disch := omega) only [↓LD, LU, LS, LT, loadA_rf, ↓reduceIte, reduceCtorEq, Nat.reduceAdd, Nat.reduceMul, Nat.reduceSub, Nat.reduceLeDiff, Nat.reduceLT, Nat.reduceEqDiff, Int.reduceNeg, Int.reduceLT, Int.reduceLE, Int.reduceEq, Int.reduceToNat]) | ((with_reducible refine And.intro ?_ ?_); omega) | ((fail_if_success refine Wz.h ?_); simp only [D.int, D.bool]))
        refine callW_self (c_disk_work e1 e2 0 ws fuse dead works hf hw) ?_
        rintro _ _ ⟨rfl, rfl⟩
        repeat' (first | refine Wa.h ?_ | refine Ws.h ?_ | refine Wb.h fun K hK => ?_ | ((with_reducible refine hK _ ?_); clear hK K) | ((with_reducible refine kQ ?_ ?_); kernel_rfl) | ((with_reducible refine k1 ?_ ?_); rfl) | ((with_reducible refine k0 ?_ ?_); rfl) | ((with_reducible apply kB) <;> first | rfl | intro h) | ((with_reducible refine kM ?_ ?_); rfl) | refine Wt.h (fun h => ?_) (fun h => ?_) <;> try (exfalso; omega) | refine Wu.h (fun h => ?_) (fun h => ?_) <;> try simp only [h] | ((fail_if_success refine Wz.h ?_); simp (disch := omega) only [↓LD, LU, LS, LT, loadA_rf, ↓reduceIte, reduceCtorEq, Nat.reduceAdd, Nat.reduceMul, Nat.reduceSub, Nat.reduceLeDiff, Nat.reduceLT, Nat.reduceEqDiff, Int.reduceNeg, Int.reduceLT, Int.reduceLE, Int.reduceEq, Int.reduceToNat, hd, dkR, dkB, dkP]) | ((with_reducible refine And.intro ?_ ?_); omega) | ((fail_if_success refine Wz.h ?_); simp only [D.int, D.bool]))
        refine bind'_of (look_mF rfl) ?_
        rw [hg]
        repeat' (first | refine Wa.h ?_ | refine Ws.h ?_ | refine Wb.h fun K hK => ?_ | ((with_reducible refine hK _ ?_); clear hK K) | ((with_reducible refine kQ ?_ ?_); kernel_rfl) | ((with_reducible refine k1 ?_ ?_); rfl) | ((with_reducible refine k0 ?_ ?_); rfl) | ((with_reducible apply kB) <;> first | rfl | intro h) | ((with_reducible refine kM ?_ ?_); rfl) | refine Wt.h (fun h => ?_) (fun h => ?_) <;> try (exfalso; omega) | refine Wu.h (fun h => ?_) (fun h => ?_) <;> try simp only [h] | ((fail_if_success refine Wz.h ?_); simp (disch := omega) only [↓LD, LU, LS, LT, loadA_rf, ↓reduceIte, reduceCtorEq, Nat.reduceAdd, Nat.reduceMul, Nat.reduceSub, Nat.reduceLeDiff, Nat.reduceLT, Nat.reduceEqDiff, Int.reduceNeg, Int.reduceLT, Int.reduceLE, Int.reduceEq, Int.reduceToNat, orN, fY]) | ((with_reducible refine And.intro ?_ ?_); omega) | ((fail_if_success refine Wz.h ?_); simp only [D.int, D.bool]))
        refine callW_self (c_put0 e1 e2 0 ws (fuseN fuse dead) false (worksN fuse dead works) B he hB k hn hn2) ?_
        rintro _ _ ⟨rfl, rfl⟩
        repeat' (first | refine Wa.h ?_ | refine Ws.h ?_ | refine Wb.h fun K hK => ?_ | ((with_reducible refine hK _ ?_); clear hK K) | ((with_reducible refine kQ ?_ ?_); kernel_rfl) | ((with_reducible refine k1 ?_ ?_); rfl) | ((with_reducible refine k0 ?_ ?_); rfl) | ((with_reducible apply kB) <;> first | rfl | intro h) | ((with_reducible refine kM ?_ ?_); rfl) | refine Wt.h (fun h => ?_) (fun h => ?_) <;> try (exfalso; omega) | refine Wu.h (fun h => ?_) (fun h => ?_) <;> try simp only [h] | ((fail_if_success refine Wz.h ?_); simp (disch := omega) only [↓LD, LU, LS, LT, loadA_rf, ↓reduceIte, reduceCtorEq, Nat.reduceAdd, Nat.reduceMul, Nat.reduceSub, Nat.reduceLeDiff, Nat.reduceLT, Nat.reduceEqDiff, Int.reduceNeg, Int.reduceLT, Int.reduceLE, Int.reduceEq, Int.reduceToNat]) | ((with_reducible refine And.intro ?_ ?_); omega) | ((fail_if_success refine Wz.h ?_); simp only [D.int, D.bool]))
        exact endA rfl rfl ⟨rfl, by simp⟩
      · repeat' (first | refine Wa.h ?_ | refine Ws.h ?_ | refine Wb.h fun K hK => ?_ | ((with_reducible refine hK _ ?_); clear hK K) | ((with_reducible refine kQ ?_ ?_); kernel_rfl) | ((with_reducible refine k1 ?_ ?_); rfl) | ((with_reducible refine k0 ?_ ?_); rfl) | ((with_reducible apply kB) <;> first | rfl | intro h) | ((with_reducible refine kM ?_ ?_); rfl) | refine Wt.h (fun h => ?_) (fun h => ?_) <;> try (exfalso; omega) | refine Wu.h (fun h => ?_) (fun h => ?_) <;> try simp only [h] | ((fail_if_success refine Wz.h ?_); simp (disch := omega) only [↓LD, LU, LS, LT, loadA_rf, ↓reduceIte, reduceCtorEq, Nat.reduceAdd, Nat.reduceMul, Nat.reduceSub, Nat.reduceLeDiff, Nat.reduceLT, Nat.reduceEqDiff, Int.reduceNeg, Int.reduceLT, Int.reduceLE, Int.reduceEq, Int.reduceToNat]) | ((with_reducible refine And.intro ?_ ?_); omega) | ((fail_if_success refine Wz.h ?_); simp only [D.int, D.bool]))
        refine callW_self (c_disk_work e1 e2 (n + 1) ws fuse dead works hf hw) ?_
        rintro _ _ ⟨rfl, rfl⟩
        repeat' (first | refine Wa.h ?_ | refine Ws.h ?_ | refine Wb.h fun K hK => ?_ | ((with_reducible refine hK _ ?_); clear hK K) | ((with_reducible refine kQ ?_ ?_); kernel_rfl) | ((with_reducible refine k1 ?_ ?_); rfl) | ((with_reducible refine k0 ?_ ?_); rfl) | ((with_reducible apply kB) <;> first | rfl | intro h) | ((with_reducible refine kM ?_ ?_); rfl) | refine Wt.h (fun h => ?_) (fun h => ?_) <;> try (exfalso; omega) | refine Wu.h (fun h => ?_) (fun h => ?_) <;> try simp only [h] | ((fail_if_success refine Wz.h ?_); simp (disch := omega) only [↓LD, LU, LS, LT, loadA_rf, ↓reduceIte, reduceCtorEq, Nat.reduceAdd, Nat.reduceMul, Nat.reduceSub, Nat.reduceLeDiff, Nat.reduceLT, Nat.reduceEqDiff, Int.reduceNeg, Int.reduceLT, Int.reduceLE, Int.reduceEq, Int.reduceToNat, hd, dkR, dkB, dkP]) | ((with_reducible refine And.intro ?_ ?_); omega) | ((fail_if_success refine Wz.h ?_); simp only [D.int, D.bool]))
        refine bind'_of (look_mF rfl) ?_
        rw [hg]
        repeat' (first | refine Wa.h ?_ | refine Ws.h ?_ | refine Wb.h fun K hK => ?_ | ((with_reducible refine hK _ ?_); clear hK K) | ((with_reducible refine kQ ?_ ?_); kernel_rfl) | ((with_reducible refine k1 ?_ ?_); rfl) | ((with_reducible refine k0 ?_ ?_); rfl) | ((with_reducible apply kB) <;> first | rfl | intro h) | ((with_reducible refine kM ?_ ?_); rfl) | refine Wt.h (fun h => ?_) (fun h => ?_) <;> try (exfalso; omega) | refine Wu.h (fun h => ?_) (fun h => ?_) <;> try simp only [h] | ((fail_if_success refine Wz.h ?_); simp (disch := omega) only [↓LD, LU, LS, LT, loadA_rf, ↓reduceIte, reduceCtorEq, Nat.reduceAdd, Nat.reduceMul, Nat.reduceSub, Nat.reduceLeDiff, Nat.reduceLT, Nat.reduceEqDiff, Int.reduceNeg, Int.reduceLT, Int.reduceLE, Int.reduceEq, Int.reduceToNat, orN, fY]) | ((with_reducible refine And.intro ?_ ?_); omega) | ((fail_if_success refine Wz.h ?_); simp only [D.int, D.bool]))
        refine callW_self (c_put0 e1 e2 (n + 1) ws (fuseN fuse dead) false (worksN fuse dead works) B he hB k hn hn2) ?_
        rintro _ _ ⟨rfl, rfl⟩
        repeat' (first | refine Wa.h ?_ | refine Ws.h ?_ | refine Wb.h fun K hK => ?_ | ((with_reducible refine hK _ ?_); clear hK K) | ((with_reducible refine kQ ?_ ?_); kernel_rfl) | ((with_reducible refine k1 ?_ ?_); rfl) | ((with_reducible refine k0 ?_ ?_); rfl) | ((with_reducible apply kB) <;> first | rfl | intro h) | ((with_reducible refine kM ?_ ?_); rfl) | refine Wt.h (fun h => ?_) (fun h => ?_) <;> try (exfalso; omega) | refine Wu.h (fun h => ?_) (fun h => ?_) <;> try simp only [h] | ((fail_if_success refine Wz.h ?_); simp (disch := omega) only [↓LD, LU, LS, LT, loadA_rf, ↓reduceIte, reduceCtorEq, Nat.reduceAdd, Nat.reduceMul, Nat.reduceSub, Nat.reduceLeDiff, Nat.reduceLT, Nat.reduceEqDiff, Int.reduceNeg, Int.reduceLT, Int.reduceLE, Int.reduceEq, Int.reduceToNat]) | ((with_reducible refine And.intro ?_ ?_); omega) | ((fail_if_success refine Wz.h ?_); simp only [D.int, D.bool]))
        exact endA rfl rfl ⟨rfl, by simp⟩
  · repeat' (first | refine Wa.h ?_ | refine Ws.h ?_ | refine Wb.h fun K hK => ?_ | ((with_reducible refine hK _ ?_); clear hK K) | ((with_reducible refine kQ ?_ ?_); kernel_rfl) | ((with_reducible refine k1 ?_ ?_); rfl) | ((with_reducible refine k0 ?_ ?_); rfl) | ((with_reducible apply kB) <;> first | rfl | intro h) | ((with_reducible refine kM ?_ ?_); rfl) | refine Wt.h (fun h => ?_) (fun h => ?_) <;> try (exfalso; omega) | refine Wu.h (fun h => ?_) (fun h => ?_) <;> try simp only [h] | ((fail_if_success refine Wz.h ?_); simp (disch := omega) only [↓LD, LU, LS, LT, loadA_rf, ↓reduceIte, reduceCtorEq, Nat.reduceAdd, Nat.reduceMul, Nat.reduceSub, Nat.reduceLeDiff, Nat.reduceLT, Nat.reduceEqDiff, Int.reduceNeg, Int.reduceLT, Int.reduceLE, Int.reduceEq, Int.reduceToNat]) | ((with_reducible refine And.intro ?_ ?_); omega) | ((fail_if_success refine Wz.h ?_); simp only [D.int, D.bool]))
    refine callW_self (c_disk_work e1 e2 n ws fuse dead works hf hw) ?_
    rintro _ _ ⟨rfl, rfl⟩
    repeat' (first | refine Wa.h ?_ | refine Ws.h ?_ | refine Wb.h fun K hK => ?_ | ((with_reducible refine hK _ ?_); clear hK K) | ((with_reducible refine kQ ?_ ?_); kernel_rfl) | ((with_reducible refine k1 ?_ ?_); rfl) | ((with_reducible refine k0 ?_ ?_); rfl) | ((with_reducible apply kB) <;> first | rfl | intro h) | ((with_reducible refine kM ?_ ?_); rfl) | refine Wt.h (fun h => ?_) (fun h => ?_) <;> try (exfalso; omega) | refine Wu.h (fun h => ?_) (fun h => ?_) <;> try simp only [h] | ((fail_if_success refine Wz.h ?_); simp (disch := omega) only [↓LD, LU, LS, LT, loadA_rf, ↓reduceIte, reduceCtorEq, Nat.reduceAdd, Nat.reduceMul, Nat.reduceSub, Nat.reduceLeDiff, Nat.reduceLT, Nat.reduceEqDiff, Int.reduceNeg, Int.reduceLT, Int.reduceLE, Int.reduceEq, Int.reduceToNat, hd]) | ((with_reducible refine And.intro ?_ ?_); omega) | ((fail_if_success refine Wz.h ?_); simp only [D.int, D.bool]))
    exact endA rfl rfl ⟨rfl, by simp⟩
end Go.Proofs.Ytjbkckhpoicaeaa.Mir

/- The program's disk: a Crash that does nothing of what pends. -/
namespace Go.Proofs.Ytjbkckhpoicaeaa.Mir
open Go Go.RowKit
set_option linter.unusedVariables false
set_option linter.unusedSimpArgs false
set_option maxHeartbeats 2000000

theorem tmod_lt' {x n : Int} (hn : 0 < n) : x.tmod n < n := Int.tmod_lt_of_pos x hn
theorem tmod_gt' {x n : Int} (hn : 0 < n) : -n < x.tmod n := by
  have := Int.tmod_lt_of_pos (-x) hn
  rw [Int.neg_tmod] at this; omega
theorem c_disk_rest (x m : Int) (hx : -1000000000000 ≤ x ∧ x ≤ 1000000000000) (hm : 0 < m ∧ m ≤ 1000000000000) : Con Try.prog 56 [D.int x, D.int m] [] fun r H' => r = D.int ((x.tmod m + m).tmod m) ∧ H' = [] := by
  have h1 := tmod_lt' (x := x) hm.1
  have h2 := tmod_gt' (x := x) hm.1
  refine Con.walk good fn_disk_rest (by simp) ?_
  unfold s_disk_rest
  simp only [argsE, List.length_cons, List.length_nil, Nat.reduceAdd]
  repeat' (first | (with_reducible first | refine Wa.h ?_ | refine Ws.h ?_ | refine Wb.h fun K hK => ?_ | (refine hK _ ?_; clear hK K)) | ((with_reducible refine kQ ?_ ?_); kernel_rfl) | ((with_reducible refine k1 ?_ ?_); rfl) | ((with_reducible refine k0 ?_ ?_); rfl) | ((with_reducible apply kB) <;> first | rfl | intro h) | ((with_reducible refine kM ?_ ?_); rfl) | (with_reducible refine Wt.h (fun h => ?_) (fun h => ?_)) <;> try (exfalso; omega) | (with_reducible refine Wu.h (fun h => ?_) (fun h => ?_)) <;> try simp only [h] | ((fail_if_success with_reducible refine Wz.h ?_); simp (disch := omega) only [↓LD, LU, LS, LT, loadA_rf, seval]) | ((with_reducible refine And.intro ?_ ?_); omega) | ((fail_if_success with_reducible refine Wz.h ?_); simp only [D.int, D.bool]))
  exact end1 rfl rfl (by kernel_rfl) .f ⟨rfl, rfl⟩
theorem c_rest0 (m : Int) (hm : 0 < m ∧ m ≤ 1000000000000) : Con Try.prog 56 [D.int 0, D.int m] [] fun r H' => r = D.int 0 ∧ H' = [] :=
  (c_disk_rest 0 m (by omega) hm).mono fun _ _ ⟨h1, h2⟩ => ⟨by rw [h1, Int.zero_tmod, Int.zero_add, Int.tmod_self], h2⟩
theorem wk_at0 {l : List Wk} {k : Nat} (hk : k < l.length) : (l.flatMap Wk.cs)[k * 2]? = some (iF (gt l k).k) := flat_at (j := 0) Wk.cs_len hk (by omega)
theorem wk_at1 {l : List Wk} {k : Nat} (hk : k < l.length) : (l.flatMap Wk.cs)[k * 2 + 1]? = some (fY (gt l k).b) := flat_at (j := 1) Wk.cs_len hk (by omega)
theorem wk_load {H : List Row} {r : Nat} {l : List Wk} {k : Nat} {T : TypeId} (hr : H[r]? = some (.data T (l.flatMap Wk.cs))) (hk : k < l.length) : loadA H 2 (.pt r (k * 2)) = some (.ag [D.int (gt l k).k, .f (fY (gt l k).b)]) := by
  have h1 := flat_take (cs := Wk.cs) (n := 2) Wk.cs_len hk
  have h2 : k * 2 + 2 ≤ ((l.flatMap Wk.cs).map D.f).length := by rw [List.length_map, flat_len' Wk.cs_len]; omega
  simp only [loadA, hr, Row.cells, if_pos h2]
  rw [← List.map_drop, ← List.map_take, h1]
  rfl
theorem wk_take {l : List Wk} {k : Nat} (hk : k < l.length) : ((l.flatMap Wk.cs).drop (k * 2)).take 2 = [iF (gt l k).k, fY (gt l k).b] := flat_take Wk.cs_len hk
/-- The rows behind a crash. -/
def dkC (e1 e2 : Fs) (n : Nat) (ws : List Wk) (works : Int) : List Row := match n with
  | 0 => [.box 76 [.mp 1, .mp 3, .f (.v (.slice none 0 0)), D.int (-1), D.bool false, D.int works], .map (mF e1), .map (mF e2), .map (mF e1)]
  | _ + 1 => [.box 76 [.mp 1, .mp 4, .f (.v (.slice none 0 0)), D.int (-1), D.bool false, D.int works], .map (mF e1), .map (mF e2), .data 79 (ws.flatMap Wk.cs), .map (mF e1)]
set_option maxRecDepth 100000 in
theorem c_disk_Crash00 (e1 e2 : Fs) (n : Nat) (ws : List Wk) (fuse : Int) (dead : Bool) (works : Int) (hn : ws.length = n) (hn2 : n ≤ 1000000) (hws : ∀ w ∈ ws, w.b.length ≤ 1000000000) :
    Con Try.prog 24 [.pt 0 0, D.int 0, D.int 0] (dkR e1 e2 n ws fuse dead works) fun r H' => r = .tp [] ∧ H' = dkC e1 e2 n ws works := by
  refine Con.walk good fn_disk_Crash (by simp) ?_
  unfold s_disk_Crash
  simp only [argsE, List.length_cons, List.length_nil, Nat.reduceAdd]
  rcases n with _ | n
  · repeat' (first | (with_reducible first | refine Wa.h ?_ | refine Ws.h ?_ | refine Wb.h fun K hK => ?_ | (refine hK _ ?_; clear hK K)) | ((with_reducible refine kQ ?_ ?_); kernel_rfl) | ((with_reducible refine k1 ?_ ?_); rfl) | ((with_reducible refine k0 ?_ ?_); rfl) | ((with_reducible apply kB) <;> first | rfl | intro h) | ((with_reducible refine kM ?_ ?_); rfl) | (with_reducible refine Wt.h (fun h => ?_) (fun h => ?_)) <;> try (exfalso; omega) | (with_reducible refine Wu.h (fun h => ?_) (fun h => ?_)) <;> try simp only [h] | ((fail_if_success with_reducible refine Wz.h ?_); simp (disch := omega) only [↓LD, LU, LS, LT, loadA_rf, seval, dkR, dkB, dkP]) | ((with_reducible refine And.intro ?_ ?_); omega) | ((fail_if_success with_reducible refine Wz.h ?_); simp only [D.int, D.bool]))
    refine callW_peek (c_rest0 _ (by omega)) (.cons .f (.cons .f .nil)) ?_ ?_
    · rintro _ _ ⟨rfl, rfl⟩
      exact ⟨.f .v, by simp⟩
    rintro _ _ ⟨rfl, rfl⟩
    repeat' (first | (with_reducible first | refine Wa.h ?_ | refine Ws.h ?_ | refine Wb.h fun K hK => ?_ | (refine hK _ ?_; clear hK K)) | ((with_reducible refine kQ ?_ ?_); kernel_rfl) | ((with_reducible refine k1 ?_ ?_); rfl) | ((with_reducible refine k0 ?_ ?_); rfl) | ((with_reducible apply kB) <;> first | rfl | intro h) | ((with_reducible refine kM ?_ ?_); rfl) | (with_reducible refine Wt.h (fun h => ?_) (fun h => ?_)) <;> try (exfalso; omega) | (with_reducible refine Wu.h (fun h => ?_) (fun h => ?_)) <;> try simp only [h] | ((fail_if_success with_reducible refine Wz.h ?_); simp (disch := omega) only [↓LD, LU, LS, LT, loadA_rf, seval, List.append_nil, List.map_nil]) | ((with_reducible refine And.intro ?_ ?_); omega) | ((fail_if_success with_reducible refine Wz.h ?_); simp only [D.int, D.bool]))
    refine HS.loopG [0, 2, 6, 21, 22, 23] (fun _ : Unit => ⟨frm 87 [(0, .pt 0 0), (2, D.int 0), (6, D.int 0), (21, .f (.v (.slice none 0 0))), (22, D.int 0), (23, D.int 0)], dkR e1 e2 0 ws fuse dead works, []⟩)
      (fun _ => True) (fun _ => 0) () (by kernel_rfl) trivial ?_
    rintro _ _
    repeat' (first | (with_reducible first | refine Wa.h ?_ | refine Ws.h ?_ | refine Wb.h fun K hK => ?_ | (refine hK _ ?_; clear hK K)) | ((with_reducible refine kQ ?_ ?_); kernel_rfl) | ((with_reducible refine k1 ?_ ?_); rfl) | ((with_reducible refine k0 ?_ ?_); rfl) | ((with_reducible apply kB) <;> first | rfl | intro h) | ((with_reducible refine kM ?_ ?_); rfl) | (with_reducible refine Wt.h (fun h => ?_) (fun h => ?_)) <;> try (exfalso; omega) | (with_reducible refine Wu.h (fun h => ?_) (fun h => ?_)) <;> try simp only [h] | ((fail_if_success with_reducible refine Wz.h ?_); simp (disch := omega) only [↓LD, LU, LS, LT, loadA_rf, seval, dkR, dkB, dkP]) | ((with_reducible refine And.intro ?_ ?_); omega) | ((fail_if_success with_reducible refine Wz.h ?_); simp only [D.int, D.bool]))
    refine callW_emb (c_mapClone e1) [1] (by kernel_rfl) rfl rfl ?_
    rintro _ _ ⟨rfl, rfl⟩
    repeat' (first | (with_reducible first | refine Wa.h ?_ | refine Ws.h ?_ | refine Wb.h fun K hK => ?_ | (refine hK _ ?_; clear hK K)) | ((with_reducible refine kQ ?_ ?_); kernel_rfl) | ((with_reducible refine k1 ?_ ?_); rfl) | ((with_reducible refine k0 ?_ ?_); rfl) | ((with_reducible apply kB) <;> first | rfl | intro h) | ((with_reducible refine kM ?_ ?_); rfl) | (with_reducible refine Wt.h (fun h => ?_) (fun h => ?_)) <;> try (exfalso; omega) | (with_reducible refine Wu.h (fun h => ?_) (fun h => ?_)) <;> try simp only [h] | ((fail_if_success with_reducible refine Wz.h ?_); simp (disch := omega) only [↓LD, LU, LS, LT, loadA_rf, seval]) | ((with_reducible refine And.intro ?_ ?_); omega) | ((fail_if_success with_reducible refine Wz.h ?_); simp only [D.int, D.bool]))
    exact end0 ⟨rfl, rfl⟩
  · repeat' (first | (with_reducible first | refine Wa.h ?_ | refine Ws.h ?_ | refine Wb.h fun K hK => ?_ | (refine hK _ ?_; clear hK K)) | ((with_reducible refine kQ ?_ ?_); kernel_rfl) | ((with_reducible refine k1 ?_ ?_); rfl) | ((with_reducible refine k0 ?_ ?_); rfl) | ((with_reducible apply kB) <;> first | rfl | intro h) | ((with_reducible refine kM ?_ ?_); rfl) | (with_reducible refine Wt.h (fun h => ?_) (fun h => ?_)) <;> try (exfalso; omega) | (with_reducible refine Wu.h (fun h => ?_) (fun h => ?_)) <;> try simp only [h] | ((fail_if_success with_reducible refine Wz.h ?_); simp (disch := omega) only [↓LD, LU, LS, LT, loadA_rf, seval, dkR, dkB, dkP]) | ((with_reducible refine And.intro ?_ ?_); omega) | ((fail_if_success with_reducible refine Wz.h ?_); simp only [D.int, D.bool]))
    refine callW_peek (c_rest0 _ (by omega)) (.cons .f (.cons .f .nil)) ?_ ?_
    · rintro _ _ ⟨rfl, rfl⟩
      exact ⟨.f .v, by simp⟩
    rintro _ _ ⟨rfl, rfl⟩
    repeat' (first | (with_reducible first | refine Wa.h ?_ | refine Ws.h ?_ | refine Wb.h fun K hK => ?_ | (refine hK _ ?_; clear hK K)) | ((with_reducible refine kQ ?_ ?_); kernel_rfl) | ((with_reducible refine k1 ?_ ?_); rfl) | ((with_reducible refine k0 ?_ ?_); rfl) | ((with_reducible apply kB) <;> first | rfl | intro h) | ((with_reducible refine kM ?_ ?_); rfl) | (with_reducible refine Wt.h (fun h => ?_) (fun h => ?_)) <;> try (exfalso; omega) | (with_reducible refine Wu.h (fun h => ?_) (fun h => ?_)) <;> try simp only [h] | ((fail_if_success with_reducible refine Wz.h ?_); simp (disch := omega) only [↓LD, LU, LS, LT, loadA_rf, seval, List.append_nil, List.map_nil]) | ((with_reducible refine And.intro ?_ ?_); omega) | ((fail_if_success with_reducible refine Wz.h ?_); simp only [D.int, D.bool]))
    refine HS.loopG [0, 2, 6, 21, 22, 23] (fun i : Nat => ⟨frm 87 [(0, .pt 0 0), (2, D.int 0), (6, D.int 0), (21, .sl 3 0 (n + 1)), (22, D.int (n + 1 : Nat)), (23, D.int i)], dkR e1 e2 (n + 1) ws fuse dead works, []⟩)
      (fun i => i ≤ n + 1) (fun i => n + 1 - i) 0 (by kernel_rfl) (Nat.zero_le _) ?_
    rintro i hi
    have hfl : (ws.flatMap Wk.cs).length = (n + 1) * 2 := by rw [flat_len' Wk.cs_len, hn]
    have hwi : i < ws.length → (gt ws i).b.length ≤ 1000000000 := fun h => hws _ (by rw [gt_eq h]; exact List.getElem_mem h)
    repeat' (first | (with_reducible first | refine Wa.h ?_ | refine Ws.h ?_ | refine Wb.h fun K hK => ?_ | (refine hK _ ?_; clear hK K)) | ((with_reducible refine kQ ?_ ?_); kernel_rfl) | ((with_reducible refine k1 ?_ ?_); rfl) | ((with_reducible refine k0 ?_ ?_); rfl) | ((with_reducible apply kB) <;> first | rfl | intro h) | ((with_reducible refine kM ?_ ?_); rfl) | (with_reducible refine Wt.h (fun h => ?_) (fun h => ?_)) <;> try (exfalso; omega) | (with_reducible refine Wu.h (fun h => ?_) (fun h => ?_)) <;> try simp only [h] | ((fail_if_success with_reducible refine Wz.h ?_); simp (disch := omega) only [↓LD, LU, LS, LT, loadA_rf, seval, dkR, dkB, dkP, hfl, wk_take, fY]) | ((with_reducible refine And.intro ?_ ?_); omega) | ((fail_if_success with_reducible refine Wz.h ?_); simp only [D.int, D.bool]))
    · have hwi' := hwi (by omega)
      refine callDr_peek (c_rest0 _ (by omega)) (.cons .f (.cons .f .nil)) ⟨.f .v, by simp⟩ ?_
      repeat' (first | (with_reducible first | refine Wa.h ?_ | refine Ws.h ?_ | refine Wb.h fun K hK => ?_ | (refine hK _ ?_; clear hK K)) | ((with_reducible refine kQ ?_ ?_); kernel_rfl) | ((with_reducible refine k1 ?_ ?_); rfl) | ((with_reducible refine k0 ?_ ?_); rfl) | ((with_reducible apply kB) <;> first | rfl | intro h) | ((with_reducible refine kM ?_ ?_); rfl) | (with_reducible refine Wt.h (fun h => ?_) (fun h => ?_)) <;> try (exfalso; omega) | (with_reducible refine Wu.h (fun h => ?_) (fun h => ?_)) <;> try simp only [h] | ((fail_if_success with_reducible refine Wz.h ?_); simp (disch := omega) only [↓LD, LU, LS, LT, loadA_rf, seval, List.append_nil, List.map_nil, D.int]) | ((with_reducible refine And.intro ?_ ?_); omega) | ((fail_if_success with_reducible refine Wz.h ?_); simp only [D.int, D.bool]))
      exact Next.mk (i + 1) (by kernel_rfl) (by omega) (by omega)
    · exact Next.mk (i + 1) (by kernel_rfl) (by omega) (by omega)
    · exact Next.mk (i + 1) (by kernel_rfl) (by omega) (by omega)
    · refine callW_emb (c_mapClone e1) [1] (by kernel_rfl) rfl rfl ?_
      rintro _ _ ⟨rfl, rfl⟩
      repeat' (first | (with_reducible first | refine Wa.h ?_ | refine Ws.h ?_ | refine Wb.h fun K hK => ?_ | (refine hK _ ?_; clear hK K)) | ((with_reducible refine kQ ?_ ?_); kernel_rfl) | ((with_reducible refine k1 ?_ ?_); rfl) | ((with_reducible refine k0 ?_ ?_); rfl) | ((with_reducible apply kB) <;> first | rfl | intro h) | ((with_reducible refine kM ?_ ?_); rfl) | (with_reducible refine Wt.h (fun h => ?_) (fun h => ?_)) <;> try (exfalso; omega) | (with_reducible refine Wu.h (fun h => ?_) (fun h => ?_)) <;> try simp only [h] | ((fail_if_success with_reducible refine Wz.h ?_); simp (disch := omega) only [↓LD, LU, LS, LT, loadA_rf, seval]) | ((with_reducible refine And.intro ?_ ?_); omega) | ((fail_if_success with_reducible refine Wz.h ?_); simp only [D.int, D.bool]))
      exact end0 ⟨rfl, rfl⟩
end Go.Proofs.Ytjbkckhpoicaeaa.Mir

/- slices.Sorted(maps.Keys(m)) told by its contract, for keys of any kind: what it leaves on the machine's rows. -/
namespace Go.Proofs.Ytjbkckhpoicaeaa.Mir
open Go Go.RowKit Go.Shelf Go.Maps Go.Sort

section
variable {P : Program} {w w' : World} {φ : Nat → Nat × Nat} {X : Nat → Prop} {H : List Row}

theorem keep_below (h : Below w.heap.size w w') : Keep (fun _ => False) w w' :=
  ⟨h.size, fun b hb _ => h.block b hb, fun b cs _ fr hc => ⟨cs, fr, (h.block b (block_lt hc)).trans hc, rfl⟩, h.os, h.tape, h.output⟩

theorem leaves_new (h : HR P w φ X H) (hk : Keep (fun _ => False) w w') (b : Nat) (hb : w.heap.size ≤ b) (row : Row) (d : D) (v : Value)
    (hrow : ∀ (A : Nat → Prop), (∀ c, c < w.heap.size → A c → Av X φ H c) → RowOk P w' (ext1 φ H.length (b, 0)) A (H.length + 1) H.length row ∧ R P w' (ext1 φ H.length (b, 0)) A (H.length + 1) d v) :
    Leaves P w φ X H ⟨d, [], [row]⟩ v w' := by
  obtain ⟨r1, r2, r3⟩ := h.more hk b 0 row hb (fun hav => (hrow _ hav).1)
  refine ⟨ext1 φ H.length (b, 0), fun r hr => ext1_old hr, by simpa [Eff.heap, applyUpd] using r1, ?_, hk.mono (fun _ _ h => h.elim), by simpa [Eff.heap, applyUpd] using r2⟩
  have := (hrow _ r3).2
  simpa [Eff.heap, applyUpd] using this

theorem leaves_same (h : HR P w φ X H) (hk : Keep (fun _ => False) w w') {d : D} {v : Value} (hd : ∀ A, R P w' φ A H.length d v) : Leaves P w φ X H ⟨d, [], []⟩ v w' := by
  obtain ⟨r1, r2, r3⟩ := h.step (H' := H) (φ' := φ) (fun _ => False) hk (fun _ h => h.elim) (Nat.le_refl _) (fun _ _ => rfl) (fun r x hx hl => .inr (live_of hx hl)) (fun r x hx => .inl ⟨hx, fun _ h => h⟩) h.apart
  exact ⟨φ, fun _ _ => rfl, by simpa [Eff.heap, applyUpd] using r1, by simpa [Eff.heap, applyUpd] using hd _, hk.mono (fun _ _ h => h.elim), by simpa [Eff.heap, applyUpd] using r2⟩

/-- What is handed back: nil, or a new row. -/
def resOf (T : TypeId) (n : Nat) (xs : List Value) : Eff :=
  if xs.isEmpty then ⟨.f (.v (.slice none 0 0)), [], []⟩ else ⟨.sl n 0 xs.length, [], [.data T (xs.map F.v)]⟩

theorem sorted_leaves (hH : HR P w φ X H) (hb : Below w.heap.size w w') {T : TypeId} {i : TypeInfo} (hT : P.info? T = some i) (hi : i.size = 1) {xs : List Value} (h1 : ∀ x ∈ xs, x.oneCell' = true) {v : Value}
    (hrow : w'.ownsRow w.heap.size T 1 v xs.length xs) (hnil : v = .slice none 0 0 ↔ xs = []) : Leaves P w φ X H (resOf T H.length xs) v w' := by
  unfold resOf
  by_cases hx : xs = []
  · subst hx
    obtain rfl := hnil.2 rfl
    exact leaves_same hH (keep_below hb) fun A => .f (.v rfl)
  · rw [if_neg (by simpa using hx)]
    obtain ⟨_, hr⟩ := hrow
    rcases hr with ⟨hv, _⟩ | ⟨g, cap, cur, rfl, hbase, hg, hn, _, hsz, htake⟩
    · exact absurd (hnil.1 hv) hx
    · refine leaves_new hH (keep_below hb) g hbase _ _ _ fun A hA => ⟨?_, ?_⟩
      · refine ⟨[], xs, cur.toList.drop xs.length, ?_, by rw [ext1_new]; rfl, by simp, fun j x u hj hu => ?_⟩
        · rw [ext1_new]
          refine hg.trans ?_
          rw [List.nil_append]
          have : cur = (xs ++ cur.toList.drop xs.length).toArray := by
            rw [← htake, Nat.mul_one]
            apply Array.toList_inj.1
            have h2 : (cur.toList.take xs.length).length = xs.length := by simp; omega
            simp only [h2, List.take_append_drop]
          rw [← this]
        · rw [List.getElem?_map, hu] at hj
          cases hj
          exact .v (h1 _ (List.mem_of_getElem? hu))
      · have := R.sl (P := P) (w := w') (φ := ext1 φ H.length (g, 0)) (A := A) (N := H.length + 1) (r := H.length) (off := 0) (n := xs.length) (cap := cap) (cs := cur) (T := T) (fr := (0, 0)) (i := i) (by omega) hn (by rw [ext1_new]; exact hg) hT (by rw [ext1_new, hi]; simp; omega)
        rw [ext1_new] at this
        exact this
end

/-- A list in order, laid by insertion: for the kernel. -/
def insK {α : Type} (le : α → α → Bool) (x : α) : List α → List α
  | [] => [x]
  | y :: ys => match le x y with
    | true => x :: y :: ys
    | false => y :: insK le x ys
def isort {α : Type} (le : α → α → Bool) : List α → List α
  | [] => []
  | x :: xs => insK le x (isort le xs)

theorem insK_perm {α : Type} (le : α → α → Bool) (x : α) : ∀ ys, (insK le x ys).Perm (x :: ys)
  | [] => .refl _
  | y :: ys => by
    unfold insK
    split
    · exact .refl _
    · exact ((insK_perm le x ys).cons y).trans (.swap x y ys)
theorem isort_perm {α : Type} (le : α → α → Bool) : ∀ xs, (isort le xs).Perm xs
  | [] => .refl _
  | x :: xs => (insK_perm le x _).trans ((isort_perm le xs).cons x)
theorem insK_pairwise {α : Type} {le : α → α → Bool} (tr : ∀ a b c, le a b = true → le b c = true → le a c = true) (tot : ∀ a b, (le a b || le b a) = true) (x : α) : ∀ ys, ys.Pairwise (fun a b => le a b = true) → (insK le x ys).Pairwise (fun a b => le a b = true)
  | [], _ => by simp [insK]
  | y :: ys, h => by
    rw [List.pairwise_cons] at h
    unfold insK
    split
    · rename_i hxy
      refine List.pairwise_cons.2 ⟨fun z hz => ?_, List.pairwise_cons.2 h⟩
      rcases List.mem_cons.1 hz with rfl | hz
      · exact hxy
      · exact tr _ _ _ hxy (h.1 z hz)
    · rename_i hxy
      have hyx : le y x = true := by
        have := tot x y
        rw [hxy] at this; simpa using this
      refine List.pairwise_cons.2 ⟨fun z hz => ?_, insK_pairwise tr tot x ys h.2⟩
      rcases List.mem_cons.1 ((insK_perm le x ys).subset hz) with rfl | hz
      · exact hyx
      · exact h.1 z hz
theorem isort_pairwise {α : Type} {le : α → α → Bool} (tr : ∀ a b c, le a b = true → le b c = true → le a c = true) (tot : ∀ a b, (le a b || le b a) = true) : ∀ xs, (isort le xs).Pairwise (fun a b => le a b = true)
  | [] => .nil
  | x :: xs => insK_pairwise tr tot x _ (isort_pairwise tr tot xs)
theorem isort_eq {α : Type} {le : α → α → Bool} (tr : ∀ a b c, le a b = true → le b c = true → le a c = true) (tot : ∀ a b, (le a b || le b a) = true) (anti : ∀ a b, le a b = true → le b a = true → a = b) {xs ys : List α} (h : ys.Perm xs) : ys.mergeSort le = isort le xs :=
  List.Perm.eq_of_pairwise (le := fun a b => le a b = true) (fun a b _ _ h1 h2 => anti a b h1 h2) (List.pairwise_mergeSort tr tot ys) (isort_pairwise tr tot xs) (((List.mergeSort_perm ys le).trans h).trans (isort_perm le xs).symm)

/-- The keys, where all are of the kind. -/
def keysV {α : Type} (ofK : Value → Option α) : List Value → Option (List α)
  | [] => some []
  | v :: vs => match ofK v with
    | some x => match keysV ofK vs with
      | some xs => some (x :: xs)
      | none => none
    | none => none

theorem keys_read {α : Type} {P : Program} {k : TypeId} (ofK : Value → Option α) (lit : α → Lit) (back : Lit → α) (hb : ∀ x, back (lit x) = x) (hk : ∀ v x, ofK v = some x → keyOf P k v = some (lit x)) :
    ∀ (l : List MapEntry) (ks : List α), keysV ofK (l.map (·.key)) = some ks → (∀ x ∈ l, ∃ y, WideElems.rd (H := Unit) P k (fun _ => some (.nil, [])) x = some y) ∧ (l.map (WideElems.rg (H := Unit) P k (fun _ => some (.nil, [])))).map (fun p => back p.1) = ks
  | [], ks, h => by cases h; exact ⟨fun x hx => (by cases hx), rfl⟩
  | e :: l, ks, h => by
    simp only [List.map_cons, keysV] at h
    split at h
    · rename_i x hx
      split at h
      · rename_i xs hxs
        cases h
        obtain ⟨h1, h2⟩ := keys_read ofK lit back hb hk l xs hxs
        have hrd : WideElems.rd (H := Unit) P k (fun _ => some (.nil, [])) e = some (lit x, .nil) := by simp [WideElems.rd, hk _ _ hx]
        refine ⟨fun y hy => ?_, ?_⟩
        · rcases List.mem_cons.1 hy with rfl | hy
          · exact ⟨_, hrd⟩
          · exact h1 y hy
        · simp only [List.map_cons, h2, WideElems.rg, hrd, Option.getD_some, hb]
      · cases h
    · cases h

theorem owns_keys {α : Type} {P : Program} {k : TypeId} (ofK : Value → Option α) (lit : α → Lit) (back : Lit → α) (hb : ∀ x, back (lit x) = x) (hk : ∀ v x, ofK v = some x → keyOf P k v = some (lit x))
    {w : World} {q : Nat} {en : Array MapEntry} {clock : Nat} (hq : w.heap[q]? = some (.map en clock)) (hst : MapKept.Stamped en clock) {ks : List α} (hks : keysV ofK (en.toList.map (·.key)) = some ks) (hsz : en.size ≤ maxLen) :
    ∃ es : List (Lit × DataW Unit), w.ownsMap P k (fun _ => some (.nil, [])) q en.size (.map es) ∧ (es.map fun p => back p.1).Perm ks ∧ es.length = en.size := by
  obtain ⟨h1, h2⟩ := keys_read (P := P) (k := k) ofK lit back hb hk _ _ hks
  refine ⟨_, ⟨en, clock, hq, ⟨hsz, hst, h1⟩, Nat.le_refl _, rfl⟩, ?_, by rw [length_sorted]; simp⟩
  have := (WideShapes.sorted_perm (en.toList.map (WideElems.rg (H := Unit) P k (fun _ => some (.nil, []))))).map (fun p => back p.1)
  rw [h2] at this
  exact this

theorem one_arg1 {P : Program} {w : World} {φ : Nat → Nat × Nat} {A : Nat → Prop} {N : Nat} {d : D} {vs : Array Value} (h : Rs P w φ A N [d] vs.toList) : ∃ u, vs = #[u] ∧ R P w φ A N d u := by
  obtain ⟨l⟩ := vs
  obtain ⟨h1, h2⟩ := h
  match l, h1 with
  | [u], _ => exact ⟨u, rfl, h2 0 d u rfl rfl⟩

def sortedG (k : FuncId) (T : TypeId) (srt : List Value → Option (List Value)) : List D → List Row → Option Eff
  | [.fn g [.pt r 0]], H => match Nat.beq g k with
    | true => match H[r]? with
      | some (.box _ [.f (.v (.map none))]) => some ⟨.f (.v (.slice none 0 0)), [], []⟩
      | some (.box _ [.mp q]) => match H[q]? with
        | some (.map es) => match srt (es.map (·.1)) with
          | some xs => some (resOf T H.length xs)
          | none => none
        | _ => none
      | _ => none
    | false => none
  | _, _ => none

theorem sortedG_ok {P : Program} {f k : FuncId} {T : TypeId} (hT0 : (P.info? T).map (·.size) = some 1) {srt : List Value → Option (List Value)} (hone : ∀ l xs, srt l = some xs → ∀ x ∈ xs, x.oneCell' = true)
    (hnil : ∀ (w : World) (b : Nat), b < w.heap.size → w.cell? ⟨b, 0, none⟩ = some (.map none) → Calls P f #[.func (.func k) #[] #[.pointer (some ⟨b, 0, none⟩)]] w fun e w' => e = .returned (.slice none 0 0) ∧ Below w.heap.size w w')
    (hsome : ∀ (w : World) (b q : Nat) (en : Array MapEntry) (clock : Nat) (xs : List Value), b < w.heap.size → w.cell? ⟨b, 0, none⟩ = some (.map (some q)) → w.heap[q]? = some (.map en clock) → MapKept.Stamped en clock → srt (en.toList.map (·.key)) = some xs →
      Calls P f #[.func (.func k) #[] #[.pointer (some ⟨b, 0, none⟩)]] w fun e w' => ∃ v, e = .returned v ∧ w'.ownsRow w.heap.size T 1 v xs.length xs ∧ (v = .slice none 0 0 ↔ xs = []) ∧ Below w.heap.size w w') : Sound P f (sortedG k T srt) := by
  obtain ⟨i, hT, hi⟩ := Option.map_eq_some_iff.1 hT0
  intro args H e hg w φ X vs hH hargs
  unfold sortedG at hg
  split at hg
  · rename_i g r
    split at hg
    · rename_i hgk
      obtain rfl : g = k := Nat.eq_of_beq_eq_true hgk
      obtain ⟨u, rfl, hu⟩ := one_arg1 hargs
      cases hu with | fn hs hr =>
      rename_i us
      obtain ⟨u, rfl⟩ : ∃ u, us = #[u] := by
        obtain ⟨l⟩ := us
        match l, hs with
        | [u], _ => exact ⟨u, rfl⟩
      have hu := hr 0 _ u rfl rfl
      cases hu with | pt hrl =>
      split at hg
      · rename_i T0 hrow
        cases hg
        obtain ⟨h0, cs, h1, h2, h3⟩ := hH.rows r _ hrow
        obtain ⟨u, rfl⟩ : ∃ u, cs = #[u] := by
          obtain ⟨l⟩ := cs
          match l, h2.1 with
          | [u], _ => exact ⟨u, rfl⟩
        have hu := h2.2 0 _ u rfl rfl
        cases hu with | f hu => cases hu with | v _ =>
        rw [h0]
        refine (hnil w (φ r).1 (block_lt h1) (by simp [World.cell?, h1])).mono ?_
        rintro e w' ⟨rfl, hb⟩
        exact ⟨_, rfl, leaves_same hH (keep_below hb) fun A => .f (.v rfl)⟩
      · rename_i T0 q hrow
        split at hg
        · rename_i es hmap
          split at hg
          · rename_i xs hxs
            cases hg
            obtain ⟨h0, cs, h1, h2, h3⟩ := hH.rows r _ hrow
            obtain ⟨u, rfl⟩ : ∃ u, cs = #[u] := by
              obtain ⟨l⟩ := cs
              match l, h2.1 with
              | [u], _ => exact ⟨u, rfl⟩
            have hu := h2.2 0 _ u rfl rfl
            cases hu with | mp hql =>
            obtain ⟨en, clock, m1, m0, m2, m3⟩ := hH.rows q _ hmap
            have hkeys : en.toList.map (·.key) = es.map (·.1) := by
              apply List.ext_getElem?
              intro j
              rw [List.getElem?_map, List.getElem?_map]
              by_cases hj : j < es.length
              · have e1 : es[j]? = some es[j] := List.getElem?_eq_getElem hj
                have hj' : j < en.size := by omega
                have e2 : en[j]? = some en[j] := Array.getElem?_eq_getElem hj'
                have e3 : en.toList[j]? = some en[j] := by rw [Array.getElem?_toList]; exact e2
                rw [e1, e3]
                exact congrArg some ((m3 j es[j].1 es[j].2 en[j] e1 e2).1)
              · rw [List.getElem?_eq_none (by rw [Array.length_toList]; omega), List.getElem?_eq_none (by omega)]; rfl
            rw [h0]
            refine (hsome w (φ r).1 (φ q).1 en clock xs (block_lt h1) (by simp [World.cell?, h1]) m1 m0 (by rw [hkeys]; exact hxs)).mono ?_
            rintro e w' ⟨v, rfl, hrow, hn, hb⟩
            exact ⟨v, rfl, sorted_leaves hH hb hT hi (hone _ _ hxs) hrow hn⟩
          · cases hg
        · cases hg
      · cases hg
    · cases hg
  · cases hg
end Go.Proofs.Ytjbkckhpoicaeaa.Mir
