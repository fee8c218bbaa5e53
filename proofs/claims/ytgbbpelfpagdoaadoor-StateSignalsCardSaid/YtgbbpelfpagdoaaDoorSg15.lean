/- Texts laid into one file: RgJ, CLaw12K, KnA, CLaw12S, SgB, StateSignalsIn. -/
import Derived.Test.YtgbbpelfpagdoaaDoorSg14

set_option linter.unusedVariables false
set_option linter.unusedSimpArgs false
/- The program's Fold. -/
namespace Go.Proofs.YtgbbpelfpagdoaaDoor.Mir
open Go Go.RowKit
set_option linter.unusedVariables false
set_option linter.unusedSimpArgs false
set_option maxHeartbeats 4000000

set_option maxRecDepth 100000 in
theorem c_st_Fold (l : List Ev) (hl : l.length ≤ 1000000) (hf : ∀ e ∈ l, FitV e) : Con Tryd.prog 6 [.f (fEv l)] [] fun r H' => r = .tp [stD (foldR s0 l).2, D.int (foldR s0 l).1] ∧ H' = [] := by
  refine Con.walk good fn_st_Fold (by simp) ?_
  unfold s_st_Fold
  simp only [argsE]
  repeat' (first | (with_reducible first | refine Wx.h ?_ | refine Wb.h fun K hK => ?_ | (refine hK _ ?_; clear hK K) | (refine wT ?_ ?_; · assumption) | (refine wF ?_ ?_; · assumption)) | ((with_reducible refine kQ ?_ ?_); kernel_rfl) | ((with_reducible refine k1 ?_ ?_); rfl) | ((with_reducible refine k0 ?_ ?_); rfl) | ((with_reducible apply kB) <;> first | rfl | intro h) | ((with_reducible refine kM ?_ ?_); rfl) | (with_reducible refine Wq.h ?_ ?_) <;> intro h <;> try (exfalso; omega) | (with_reducible refine Wu.h ?_ ?_) <;> intro h <;> try simp only [h] | ((fail_if_success with_reducible refine Wz.h ?_); first | simp (disch := omega) only [↓LD, LA, loadA_rf, seval, LEv] | ((with_reducible refine And.intro ?_ ?_); omega) | simp only [D.int, D.bool]))
  refine HS.view (View.bcell 1 5 (.f (.s [] 0)) rfl rfl .ns) ?_
  refine HS.view (View.void 48) ?_
  refine HS.view (View.void 77) ?_
  refine HS.view (View.void 40) ?_
  refine HS.view (View.bcell 1 6 (.sl 2 0 0) rfl rfl (.no (by show 2 < 5; omega))) ?_
  refine HS.view (View.bcell 1 7 (.sl 3 0 0) rfl rfl (.no (by show 3 < 5; omega))) ?_
  refine HS.view (View.bcell 1 8 (.sl 4 0 0) rfl rfl (.no (by show 4 < 5; omega))) ?_
  refine HS.loopG [2, 4, 9, 10, 11] (fun x : Nat × S12 => ⟨frm 23 [(2, .pt 0 0), (4, .pt 1 0), (9, .f (fEv l)), (10, D.int l.length), (11, D.int x.1)], [.box 31 [jI, jI, jI, jI, jF, jN, jN, jN, jN], .box 31 (stL 2 3 4 x.2), rN x.2.nodes, rT x.2.tms, rS x.2.sgs], []⟩)
    (fun x => x.1 ≤ l.length ∧ Ok12 x.2 ∧ foldR s0 l = foldR x.2 (l.drop x.1)) (fun x => l.length - x.1) (0, s0) (by kernel_rfl) ⟨Nat.zero_le _, ok12_0, rfl⟩ ?_
  rintro ⟨i, s⟩ ⟨hi, ho, hF⟩
  dsimp only at hi ho hF
  by_cases hil : i < l.length
  · rw [drop_gt hil, foldR] at hF
    have hv := hf _ (gt_mem hil)
    have he := applyL_eq (e := gt l i) ho
    unfold applyL at he
    obtain ⟨hA, _, _⟩ := ho.fitA
    have hid := ho.id
    have ho2 := ok12_apply (e := gt l i) ho hv.2.2.2
    repeat' (first | (with_reducible first | refine Wx.h ?_ | refine Wb.h fun K hK => ?_ | (refine hK _ ?_; clear hK K) | (refine wT ?_ ?_; · assumption) | (refine wF ?_ ?_; · assumption)) | ((with_reducible refine kQ ?_ ?_); kernel_rfl) | ((with_reducible refine k1 ?_ ?_); rfl) | ((with_reducible refine k0 ?_ ?_); rfl) | ((with_reducible apply kB) <;> first | rfl | intro h) | ((with_reducible refine kM ?_ ?_); rfl) | (with_reducible refine Wq.h ?_ ?_) <;> intro h <;> try (exfalso; omega) | (with_reducible refine Wu.h ?_ ?_) <;> intro h <;> try simp only [h] | ((fail_if_success with_reducible refine Wz.h ?_); first | simp (disch := omega) only [↓LD, LA, loadA_rf, seval, LEv, load_fEv, len_fEv, Ev.cs, stL, rN, rT, rS, -loadA_rf, List.map_cons, List.map_nil] | ((with_reducible refine And.intro ?_ ?_); omega) | simp only [D.int, D.bool]))
    refine callW_emb (c_st_apply s (gt l i) hA hv.1 hv.2.2 ⟨hid.1, by omega⟩) [1, 2, 3, 4] (by kernel_rfl) rfl rfl ?_
    rintro _ _ ⟨rfl, m, rfl⟩
    generalize applyT s (gt l i) = p at he ⊢
    obtain ⟨v, s'⟩ := p
    dsimp only at he ⊢
    rcases m with _ | _ | _ | m
    · simp (disch := omega) only [↓LD, LA, loadA_rf, seval, ren, List.getElem?_nil, stM, stH, stL, rN, rT, rS]
      repeat' (first | (with_reducible first | refine Wx.h ?_ | refine Wb.h fun K hK => ?_ | (refine hK _ ?_; clear hK K) | (refine wT ?_ ?_; · assumption) | (refine wF ?_ ?_; · assumption)) | ((with_reducible refine kQ ?_ ?_); kernel_rfl) | ((with_reducible refine k1 ?_ ?_); rfl) | ((with_reducible refine k0 ?_ ?_); rfl) | ((with_reducible apply kB) <;> first | rfl | intro h) | ((with_reducible refine kM ?_ ?_); rfl) | (with_reducible refine Wq.h ?_ ?_) <;> intro h <;> try (exfalso; omega) | (with_reducible refine Wu.h ?_ ?_) <;> intro h <;> try simp only [h] | ((fail_if_success with_reducible refine Wz.h ?_); first | simp (disch := omega) only [↓LD, LA, loadA_rf, seval] | ((with_reducible refine And.intro ?_ ?_); omega) | simp only [D.int, D.bool]))
      · have hv0 : v = 0 := by assumption
        rw [if_pos hv0] at he
        rw [← he] at hF ho2
        rw [if_pos rfl] at hF
        exact Next.mk (i + 1, s') (by kernel_rfl) ⟨by dsimp only; omega, ho2 rfl, hF⟩ (by dsimp only; omega)
      · have hv0 : ¬ v = 0 := by assumption
        rw [if_neg hv0] at he
        rw [← he, if_neg hv0] at hF
        rw [hF]
        exact RetS.still (ds := [.ag [jI, jI, jI, jI, jF, jN, jN, jN, jN], D.int v]) (by kernel_rfl) (by kernel_rfl) (.tps (.cons (.ags (.cons .f (.cons .f (.cons .f (.cons .f (.cons .f (.cons .nil (.cons .nil (.cons .nil (.cons .nil .nil)))))))))) (.cons .f .nil))) ⟨rfl, rfl⟩
    · simp (disch := omega) only [↓LD, LA, loadA_rf, seval, ren, List.getElem?_nil, stM, stH, stL, rN, rT, rS]
      repeat' (first | (with_reducible first | refine Wx.h ?_ | refine Wb.h fun K hK => ?_ | (refine hK _ ?_; clear hK K) | (refine wT ?_ ?_; · assumption) | (refine wF ?_ ?_; · assumption)) | ((with_reducible refine kQ ?_ ?_); kernel_rfl) | ((with_reducible refine k1 ?_ ?_); rfl) | ((with_reducible refine k0 ?_ ?_); rfl) | ((with_reducible apply kB) <;> first | rfl | intro h) | ((with_reducible refine kM ?_ ?_); rfl) | (with_reducible refine Wq.h ?_ ?_) <;> intro h <;> try (exfalso; omega) | (with_reducible refine Wu.h ?_ ?_) <;> intro h <;> try simp only [h] | ((fail_if_success with_reducible refine Wz.h ?_); first | simp (disch := omega) only [↓LD, LA, loadA_rf, seval] | ((with_reducible refine And.intro ?_ ?_); omega) | simp only [D.int, D.bool]))
      · have hv0 : v = 0 := by assumption
        rw [if_pos hv0] at he
        rw [← he] at hF ho2
        rw [if_pos rfl] at hF
        exact Next.mk (i + 1, s') (by kernel_rfl) ⟨by dsimp only; omega, ho2 rfl, hF⟩ (by dsimp only; omega)
      · have hv0 : ¬ v = 0 := by assumption
        rw [if_neg hv0] at he
        rw [← he, if_neg hv0] at hF
        rw [hF]
        exact RetS.still (ds := [.ag [jI, jI, jI, jI, jF, jN, jN, jN, jN], D.int v]) (by kernel_rfl) (by kernel_rfl) (.tps (.cons (.ags (.cons .f (.cons .f (.cons .f (.cons .f (.cons .f (.cons .nil (.cons .nil (.cons .nil (.cons .nil .nil)))))))))) (.cons .f .nil))) ⟨rfl, rfl⟩
    · simp (disch := omega) only [↓LD, LA, loadA_rf, seval, ren, List.getElem?_nil, stM, stH, stL, rN, rT, rS]
      repeat' (first | (with_reducible first | refine Wx.h ?_ | refine Wb.h fun K hK => ?_ | (refine hK _ ?_; clear hK K) | (refine wT ?_ ?_; · assumption) | (refine wF ?_ ?_; · assumption)) | ((with_reducible refine kQ ?_ ?_); kernel_rfl) | ((with_reducible refine k1 ?_ ?_); rfl) | ((with_reducible refine k0 ?_ ?_); rfl) | ((with_reducible apply kB) <;> first | rfl | intro h) | ((with_reducible refine kM ?_ ?_); rfl) | (with_reducible refine Wq.h ?_ ?_) <;> intro h <;> try (exfalso; omega) | (with_reducible refine Wu.h ?_ ?_) <;> intro h <;> try simp only [h] | ((fail_if_success with_reducible refine Wz.h ?_); first | simp (disch := omega) only [↓LD, LA, loadA_rf, seval] | ((with_reducible refine And.intro ?_ ?_); omega) | simp only [D.int, D.bool]))
      · have hv0 : v = 0 := by assumption
        rw [if_pos hv0] at he
        rw [← he] at hF ho2
        rw [if_pos rfl] at hF
        exact Next.mk (i + 1, s') (by kernel_rfl) ⟨by dsimp only; omega, ho2 rfl, hF⟩ (by dsimp only; omega)
      · have hv0 : ¬ v = 0 := by assumption
        rw [if_neg hv0] at he
        rw [← he, if_neg hv0] at hF
        rw [hF]
        exact RetS.still (ds := [.ag [jI, jI, jI, jI, jF, jN, jN, jN, jN], D.int v]) (by kernel_rfl) (by kernel_rfl) (.tps (.cons (.ags (.cons .f (.cons .f (.cons .f (.cons .f (.cons .f (.cons .nil (.cons .nil (.cons .nil (.cons .nil .nil)))))))))) (.cons .f .nil))) ⟨rfl, rfl⟩
    · simp (disch := omega) only [↓LD, LA, loadA_rf, seval, ren, List.getElem?_nil, stM, stH, stL, rN, rT, rS]
      repeat' (first | (with_reducible first | refine Wx.h ?_ | refine Wb.h fun K hK => ?_ | (refine hK _ ?_; clear hK K) | (refine wT ?_ ?_; · assumption) | (refine wF ?_ ?_; · assumption)) | ((with_reducible refine kQ ?_ ?_); kernel_rfl) | ((with_reducible refine k1 ?_ ?_); rfl) | ((with_reducible refine k0 ?_ ?_); rfl) | ((with_reducible apply kB) <;> first | rfl | intro h) | ((with_reducible refine kM ?_ ?_); rfl) | (with_reducible refine Wq.h ?_ ?_) <;> intro h <;> try (exfalso; omega) | (with_reducible refine Wu.h ?_ ?_) <;> intro h <;> try simp only [h] | ((fail_if_success with_reducible refine Wz.h ?_); first | simp (disch := omega) only [↓LD, LA, loadA_rf, seval] | ((with_reducible refine And.intro ?_ ?_); omega) | simp only [D.int, D.bool]))
      · have hv0 : v = 0 := by assumption
        rw [if_pos hv0] at he
        rw [← he] at hF ho2
        rw [if_pos rfl] at hF
        exact Next.mk (i + 1, s') (by kernel_rfl) ⟨by dsimp only; omega, ho2 rfl, hF⟩ (by dsimp only; omega)
      · have hv0 : ¬ v = 0 := by assumption
        rw [if_neg hv0] at he
        rw [← he, if_neg hv0] at hF
        rw [hF]
        exact RetS.still (ds := [.ag [jI, jI, jI, jI, jF, jN, jN, jN, jN], D.int v]) (by kernel_rfl) (by kernel_rfl) (.tps (.cons (.ags (.cons .f (.cons .f (.cons .f (.cons .f (.cons .f (.cons .nil (.cons .nil (.cons .nil (.cons .nil .nil)))))))))) (.cons .f .nil))) ⟨rfl, rfl⟩
  · repeat' (first | (with_reducible first | refine Wx.h ?_ | refine Wb.h fun K hK => ?_ | (refine hK _ ?_; clear hK K) | (refine wT ?_ ?_; · assumption) | (refine wF ?_ ?_; · assumption)) | ((with_reducible refine kQ ?_ ?_); kernel_rfl) | ((with_reducible refine k1 ?_ ?_); rfl) | ((with_reducible refine k0 ?_ ?_); rfl) | ((with_reducible apply kB) <;> first | rfl | intro h) | ((with_reducible refine kM ?_ ?_); rfl) | (with_reducible refine Wq.h ?_ ?_) <;> intro h <;> try (exfalso; omega) | (with_reducible refine Wu.h ?_ ?_) <;> intro h <;> try simp only [h] | ((fail_if_success with_reducible refine Wz.h ?_); first | simp (disch := omega) only [↓LD, LA, loadA_rf, seval, LEv, stL, rN, rT, rS] | ((with_reducible refine And.intro ?_ ?_); omega) | simp only [D.int, D.bool]))
    rw [List.drop_of_length_le (by omega), foldR] at hF
    rw [hF]
    exact RetS.still (ds := [.ag (stL 2 3 4 s), D.int 0]) (by kernel_rfl) (by kernel_rfl) (.tps (.cons (vws_stL rfl rfl rfl) (.cons .f .nil))) ⟨rfl, rfl⟩
end Go.Proofs.YtgbbpelfpagdoaaDoor.Mir

/- Functions of the program, told without it. -/
namespace Go.Proofs.YtgbbpelfpagdoaaDoor.Mir
open Go Go.RowKit

/-- cutover.cutoverlaw12.known -/
def s_law_known : SCode :=
  (jq ([.a 0 (.mv kF)]) (jq ((ap [.a 4 (.bld [jN, jI, jI] [(1, 1, (kI 1)), (2, 1, (kI 5))]), .a 5 (.bsl 51 3 1 [jN, jI, jI] [(0, (.t 4))]), .a 6 (.bld
 [jI, jI, jI, jI, jI, jI, (.f (.v (.string ⟨#[]⟩))), jN, jN] [(0, 1, (kI 1)), (1, 1, (kI 1)), (3, 1, (kI 1)), (8, 1, (.t 5))]), .a 7 (.bld [jI, jI, jI,
 jI, jI, jI, (.f (.v (.string ⟨#[]⟩))), jN, jN] [(0, 1, (kI 2)), (1, 1, (kI 1)), (3, 1, (kI 2)), (5, 1, (kI 1))]), .a 8 (.bld [jI, jI, jI, jI, jI, jI,
 (.f (.v (.string ⟨#[]⟩))), jN, jN] [(0, 1, (kI 3)), (1, 1, (kI 1)), (3, 1, (kI 3)), (5, 1, (kI 1))]), .a 9 (.bsl 38 9 3 [jI, jI, jI, jI, jI, jI, (.f
 (.v (.string ⟨#[]⟩))), jN, jN, jI, jI, jI, jI, jI, jI, (.f (.v (.string ⟨#[]⟩))), jN, jN, jI, jI, jI, jI, jI, jI, (.f (.v (.string ⟨#[]⟩))), jN, jN]
 [(0, (.t 6)), (9, (.t 7)), (18, (.t 8))]), .a 10 (.call (kC 6) [(.t 9)])] [jm 3 10, jE 11 0 3, jE 12 1 3, .a 1 (.alloc 31 [jI, jI, jI, jI, jF, jN, jN,
 jN, jN]), .n (.store 9 (.t 1) (.t 11)), jm 2 12])) (jq ((ap [jm 13 2, jb 14 .eql 13 0] (ap [jm 15 14, jG 16 (.loadA 9 (.t 1)) 15 true] (ap [jG 17
 (.call (kC 13) [(.t 16)]) 15 true] (ap [jG 18 (.bin .eql (.t 17) (kI 9)) 15 true] (ap [.a 19 (.pick (.t 15) (.t 18) kF), jm 20 19, gO 21 6 1 20 true]
 (ap [gL 22 21 20 true, jG 23 (.slen (.t 22)) 20 true, jG 24 (.bin .eql (.t 23) (kI 1)) 20 true] (ap [.a 25 (.pick (.t 20) (.t 24) kF), jm 26 25, gO 27
 6 1 26 true] (ap [gL 28 27 26 true, jG 29 (.idx 4 (.t 28) (kI 0)) 26 true, gO 30 0 29 26 true, gL 31 30 26 true, jG 32 (.bin .eql (.t 31) (kI 2)) 26
 true] (ap [.a 33 (.pick (.t 26) (.t 32) kF), jm 34 33, gO 35 0 1 34 true] (ap [gL 36 35 34 true, jG 37 (.bin .eql (.t 36) (kI 3)) 34 true] [.a 38
 (.pick (.t 34) (.t 37) kF), jm 0 38]))))))))))) .ret)))
theorem fn_law_known : Fn Tryd.prog 7 39 [.t 0] s_law_known := .of Tryd.func7 (by kernel_rfl)

end Go.Proofs.YtgbbpelfpagdoaaDoor.Mir

/- Chapter 12's example, walked. -/
namespace Go.Proofs.YtgbbpelfpagdoaaDoor.Mir
open Go Go.RowKit
set_option linter.unusedVariables false
set_option linter.unusedSimpArgs false
set_option maxHeartbeats 4000000

def knE : List Ev := [⟨1, 1, 0, 1, 0, 0, [], [], [⟨[], 1, 5⟩]⟩, ⟨2, 1, 0, 2, 0, 1, [], [], []⟩, ⟨3, 1, 0, 3, 0, 1, [], [], []⟩]
def knS : S12 := ⟨3, 1, 0, 0, false, [⟨[], 1, 5⟩], [⟨2, 1, 0, []⟩], [], []⟩
theorem knF : foldR s0 knE = (0, knS) := by kernel_rfl
set_option maxRecDepth 100000 in
theorem c_st_known : Con Tryd.prog 7 [] [] fun r H' => r = D.bool true ∧ H' = [] := by
  refine Con.walk good fn_law_known (by simp) ?_
  unfold s_law_known
  simp only [argsE]
  repeat' (first | (with_reducible first | refine Wx.h ?_ | refine Wb.h fun K hK => ?_ | (refine hK _ ?_; clear hK K) | (refine wT ?_ ?_; · assumption) | (refine wF ?_ ?_; · assumption)) | ((with_reducible refine kQ ?_ ?_); kernel_rfl) | ((with_reducible refine k1 ?_ ?_); rfl) | ((with_reducible refine k0 ?_ ?_); rfl) | ((with_reducible apply kB) <;> first | rfl | intro h) | ((with_reducible refine kM ?_ ?_); rfl) | (with_reducible refine Wq.h ?_ ?_) <;> intro h <;> try (exfalso; omega) | (with_reducible refine Wu.h ?_ ?_) <;> intro h <;> try simp only [h] | ((fail_if_success with_reducible refine Wz.h ?_); first | simp (disch := omega) only [↓LD, LA, loadA_rf, seval] | ((with_reducible refine And.intro ?_ ?_); omega) | simp only [D.int, D.bool]))
  refine bind'_of (a := ([iF 1, iF 1, iF 0, iF 1, iF 0, iF 0, .v (.string ⟨#[]⟩), .v (.slice none 0 0), .s [.v (.slice none 0 0), iF 1, iF 5] 1, iF 2, iF 1, iF 0, iF 2, iF 0, iF 1, .v (.string ⟨#[]⟩), .v (.slice none 0 0), .v (.slice none 0 0), iF 3, iF 1, iF 0, iF 3, iF 0, iF 1, .v (.string ⟨#[]⟩), .v (.slice none 0 0), .v (.slice none 0 0)], [(0, .froz 51 [.v (.slice none 0 0), iF 1, iF 5])])) (by kernel_rfl) ?_
  simp only [applyUpd, List.set_cons_zero, List.cons_append, List.nil_append]
  refine callW_lay [1] (args0 := [.f (.s [iF 1, iF 1, iF 0, iF 1, iF 0, iF 0, .v (.string ⟨#[]⟩), .v (.slice none 0 0), .s [.v (.slice none 0 0), iF 1, iF 5] 1, iF 2, iF 1, iF 0, iF 2, iF 0, iF 1, .v (.string ⟨#[]⟩), .v (.slice none 0 0), .v (.slice none 0 0), iF 3, iF 1, iF 0, iF 3, iF 0, iF 1, .v (.string ⟨#[]⟩), .v (.slice none 0 0), .v (.slice none 0 0)] 3)]) (.cons (.sl (T := 38) (xs := [iF 1, iF 1, iF 0, iF 1, iF 0, iF 0, .v (.string ⟨#[]⟩), .v (.slice none 0 0), .s [.v (.slice none 0 0), iF 1, iF 5] 1, iF 2, iF 1, iF 0, iF 2, iF 0, iF 1, .v (.string ⟨#[]⟩), .v (.slice none 0 0), .v (.slice none 0 0), iF 3, iF 1, iF 0, iF 3, iF 0, iF 1, .v (.string ⟨#[]⟩), .v (.slice none 0 0), .v (.slice none 0 0)]) rfl (fun e => by cases e)) .nil) ?_
  simp only [layV, List.foldr_cons, List.foldr_nil, List.set_cons_succ, List.set_cons_zero]
  refine callW_less (args0 := [.f (fEv knE)]) ?_ (.cons (.f (WF.ls ?_)) .nil)
  rotate_left
  · simp only [knE, Ev.cs, fG, fY, Nd.cs, fI, List.flatMap_cons, List.flatMap_nil, List.append_nil, List.map_nil, List.length_nil, List.length_cons, List.cons_append, List.nil_append, Nat.zero_add]
    repeat' (first | exact WDs.nil | refine WDs.cons ?_ ?_ | exact WD.refl | exact WD.f .ns | exact WD.f .es | refine WD.ags ?_ | refine WD.f (WF.ls ?_) | exact WFs.nil | refine WFs.cons ?_ ?_ | exact WF.refl | exact WF.ns | exact WF.es)
    refine WF.ls ?_
    repeat' (first | exact WDs.nil | refine WDs.cons ?_ ?_ | exact WD.refl | exact WD.f .ns | exact WD.f .es | refine WD.ags ?_ | refine WD.f (WF.ls ?_) | exact WFs.nil | refine WFs.cons ?_ ?_ | exact WF.refl | exact WF.ns | exact WF.es)
  refine callW_pure (c_st_Fold knE (by decide) (by intro e he; simp only [knE, List.mem_cons, List.not_mem_nil, or_false] at he; rcases he with rfl | rfl | rfl <;> exact ⟨by simp, by simp, ⟨by simp, by simp⟩⟩)) rfl rfl rfl ?_
  rw [knF]
  repeat' (first | (with_reducible first | refine Wx.h ?_ | refine Wb.h fun K hK => ?_ | (refine hK _ ?_; clear hK K) | (refine wT ?_ ?_; · assumption) | (refine wF ?_ ?_; · assumption)) | ((with_reducible refine kQ ?_ ?_); kernel_rfl) | ((with_reducible refine k1 ?_ ?_); rfl) | ((with_reducible refine k0 ?_ ?_); rfl) | ((with_reducible apply kB) <;> first | rfl | intro h) | ((with_reducible refine kM ?_ ?_); rfl) | (with_reducible refine Wq.h ?_ ?_) <;> intro h <;> try (exfalso; omega) | (with_reducible refine Wu.h ?_ ?_) <;> intro h <;> try simp only [h] | ((fail_if_success with_reducible refine Wz.h ?_); first | simp (disch := omega) only [↓LD, LA, loadA_rf, seval, stD] | ((with_reducible refine And.intro ?_ ?_); omega) | simp only [D.int, D.bool]))
  have h1 : knS.nodes.length = 1 := rfl
  have h2 : (gt knS.nodes 0).st = 2 := rfl
  have h3 : knS.id = 3 := rfl
  have h4 : endingL knS = 9 := by kernel_rfl
  refine callW_pure (c_st_Ending knS (by rw [h1]; omega)) rfl rfl rfl ?_
  rw [h4]
  have h5 := at0_fNn (g := knS.nodes) (k := 0) (by rw [h1]; omega)
  rw [Nat.zero_mul] at h5
  repeat' (first | (with_reducible first | refine Wx.h ?_ | refine Wb.h fun K hK => ?_ | (refine hK _ ?_; clear hK K) | (refine wT ?_ ?_; · assumption) | (refine wF ?_ ?_; · assumption)) | ((with_reducible refine kQ ?_ ?_); kernel_rfl) | ((with_reducible refine k1 ?_ ?_); rfl) | ((with_reducible refine k0 ?_ ?_); rfl) | ((with_reducible apply kB) <;> first | rfl | intro h) | ((with_reducible refine kM ?_ ?_); rfl) | (with_reducible refine Wq.h ?_ ?_) <;> intro h <;> try (exfalso; omega) | (with_reducible refine Wu.h ?_ ?_) <;> intro h <;> try simp only [h] | ((fail_if_success with_reducible refine Wz.h ?_); first | simp (disch := omega) only [↓LD, LA, loadA_rf, seval, LSt, h1, h2, h3, h5, len_fNn, Nn.cs] | ((with_reducible refine And.intro ?_ ?_); omega) | simp only [D.int, D.bool]))
  exact end1 rfl rfl (by kernel_rfl) .f ⟨rfl, rfl⟩
instance {H : List Row} {K : D → List Row → Prop} : Wa (callW Tryd.prog (.fn 7 []) [] H K) (K (.f (.v (.bool true))) H) := ⟨fun h => callW_pure c_st_known rfl rfl rfl h⟩
end Go.Proofs.YtgbbpelfpagdoaaDoor.Mir

/- Functions of the program, told without it. -/
namespace Go.Proofs.YtgbbpelfpagdoaaDoor.Mir
open Go Go.RowKit

/-- cutover.cutoverlaw12.StateSignals -/
def s_law_StateSignals : SCode :=
  (jq ([.a 4 (.mv kF)]) (jq ((ap [jm 10 0, jm 11 1, .a 12 (.call (kC 5) [(.t 10), (.t 11)])] [jm 5 12])) (jq ((ap [jm 14 5, .a 15 (.call (kC 6) [(.t
 14)])] [jm 13 15, jE 16 0 13, jE 17 1 13, .a 6 (.alloc 31 [jI, jI, jI, jI, jF, jN, jN, jN, jN]), .n (.store 9 (.t 6) (.t 16)), jm 7 17])) (.seq (jq
 ((ap [.a 18 (.call (kC 7) [])] (ap [.a 19 (.unot (.t 18)), jm 20 19, gM 21 7 20 false] (ap [jG 22 (.bin .neq (.t 21) (kI 0)) 20 false] [.a 23 (.pick
 (.t 20) kT (.t 22))])))) (jc 23 (jq ([.a 4 (.mv kF)]) .ret) .skip)) (jq ([jk 8 0]) (.seq (jq ([jk 9 0]) (.block 0 (.loop (.seq (jq ([jm 24 9, jm 25 5,
 je 26 25, jB 27 .lss 24 26]) (jc 27 .skip (.exit 0))) (.seq (.block 1 (.seq (jq ([jm 30 5, jm 31 9, jx 32 9 30 31, jo 33 3 32, jl 34 33, jb 35 .neq 34
 7]) (jc 35 (.exit 1) .skip)) (.seq (.seq (.drw [jm 36 8, jo 37 8 6, jl 38 37, je 39 38, jB 40 .geq 36 39, jm 41 40, gO 42 8 6 41 false, gL 43 42 41
 false, gM 44 8 41 false, jG 45 (.idx 3 (.t 43) (.t 44)) 41 false, gO 46 0 45 41 false, gL 47 46 41 false, gM 48 5 41 false, gM 49 9 41 false, jG 50
 (.idx 9 (.t 48) (.t 49)) 41 false, gO 51 6 50 41 false, gL 52 51 41 false, jG 53 (.bin .neq (.t 47) (.t 52)) 41 false, .a 54 (.pick (.t 41) kT (.t
 53)), jm 55 54, gO 56 8 6 55 false, gL 57 56 55 false, gM 58 8 55 false, jG 59 (.idx 3 (.t 57) (.t 58)) 55 false, gO 60 1 59 55 false, gL 61 60 55
 false, gM 62 5 55 false, gM 63 9 55 false, jG 64 (.idx 9 (.t 62) (.t 63)) 55 false, gO 65 0 64 55 false, gL 66 65 55 false, jG 67 (.bin .neq (.t 61)
 (.t 66)) 55 false, .a 68 (.pick (.t 55) kT (.t 67)), jm 69 68, gO 70 8 6 69 false, gL 71 70 69 false, gM 72 8 69 false, jG 73 (.idx 3 (.t 71) (.t 72))
 69 false, gO 74 2 73 69 false, gL 75 74 69 false, jG 76 (.b2s (.t 75)) 69 false, gM 77 5 69 false, gM 78 9 69 false, jG 79 (.idx 9 (.t 77) (.t 78)) 69
 false, gO 80 7 79 69 false, gL 81 80 69 false, jG 82 (.b2s (.t 81)) 69 false, jG 83 (.bin .neq (.t 76) (.t 82)) 69 false, .a 84 (.pick (.t 69) kT (.t
 83)), jm 85 84, jG 86 (.loadA 9 (.t 6)) 85 false, gM 87 5 85 false, gM 88 9 85 false, jG 89 (.idx 9 (.t 87) (.t 88)) 85 false, gO 90 6 89 85 false, gL
 91 90 85 false, jG 92 (.call (kC 8) [(.t 86), (.t 91)]) 85 false, jG 93 (.unot (.t 92)) 85 false, .a 94 (.pick (.t 85) kT (.t 93))] [0, 0, 2, 6, 15,
 31, 63, 127, 63, 511, 1023, 2047, 63, 63, 12351, 28735, 61503, 131071, 262143, 524287, 1048575, 2097151, 1048575, 8388607, 16777215, 33554431, 1048575,
 1048575, 202375167, 470810623, 1007681535, 2147483647, 4294967295, 8589934591, 17179869183, 34359738367, 17179869183, 137438953471, 274877906943,
 549755813887, 1099511627775, 17179869183, 17179869183, 6614249635839, 15410342658047, 33002528702463, 68186900791295, 140737488355327, 281474976710655,
 562949953421311, 1125899906842623, 1125899906842623, 1125899906842623, 7881299347898367, 16888498602639359, 34902897112121343, 72057594037927935,
 144115188075855871, 288230376151711743]) (jc 94 (jq ([.a 4 (.mv kF)]) .ret) .skip)) (.ops [jm 95 8, jb 96 .add 95 1, jm 8 96])))) (.ops [jm 28 9, jb 29
 .add 28 1, jm 9 29])))))) (jq ((ap [jm 97 8, jo 98 8 6, jl 99 98, je 100 99, jB 101 .eql 97 100] (ap [jm 102 101, jG 103 (.loadA 9 (.t 6)) 102 true]
 (ap [jG 104 (.call (kC 8) [(.t 103), (.c (.f (.v (.string ⟨#[110, 111, 110, 101, 45]⟩))))]) 102 true] [jG 105 (.unot (.t 104)) 102 true, .a 106 (.pick
 (.t 102) (.t 105) kF), jm 4 106])))) .ret)))))))
theorem fn_law_StateSignals : Fn Tryd.prog 3 107 [.t 4] s_law_StateSignals := .of Tryd.func3 (by kernel_rfl)

end Go.Proofs.YtgbbpelfpagdoaaDoor.Mir

/- StateSignals, by its code. -/
namespace Go.Proofs.YtgbbpelfpagdoaaDoor.Mir
open Go Go.RowKit
set_option linter.unusedVariables false
set_option linter.unusedSimpArgs false
set_option maxHeartbeats 4000000

instance {l : List Ev} {H : List Row} {K : D → List Row → Prop} [hl : Kn (l.length ≤ 1000000)] [hf : Kn (∀ e ∈ l, FitV e)] : Wa (callW Tryd.prog (.fn 6 []) [.f (fEv l)] H K)
    (K (.tp [sA (foldR s0 l).2, .f (.v (.int .i64 (foldR s0 l).1))]) H) := ⟨fun h => callW_pure (c_st_Fold l hl.h hf.h) rfl rfl rfl h⟩
instance {s : S12} {nm : Bs} {H : List Row} {K : Bool → D → List Row → Prop} [hs : Kn (Wk12 s)] : Wa (callDr Tryd.prog (.fn 8 []) [.ag [.f (.v (.int .i64 s.id)), .f (.v (.int .i64 s.ver)), .f (.v (.int .i64 s.time)), .f (.v (.int .i64 s.closed)), .f (.v (.bool s.cancel)), .f (fG s.defs), .f (fNn s.nodes), .f (fTm s.tms), .f (fSg s.sgs)], .f (.v (.string (BB nm)))] H K)
    (K true (.f (.v (.bool (hasSg s.sgs nm)))) H) := ⟨fun h => callDr_pure (c_st_Has s nm hs.h.fit.fit.sgs) rfl rfl rfl h⟩
theorem two_refl {α : Type} {a : α} {p q : Prop} : Two (a = a) p q = p := by
  apply propext
  constructor
  · intro h; exact h.1 rfl
  · intro h; exact Two.mk' (fun _ => h) fun hn => absurd rfl hn
set_option maxRecDepth 100000 in
theorem c_law_StateSignals (steps : List Rw) (defs : List Rd) : Con Tryd.prog 3 [.f (fRw steps), .f (fR defs)] [] fun r H' => r = .f (.v (.bool true)) ∧ H' = [] := by
  refine Con.walk good fn_law_StateSignals (by simp) ?_
  unfold s_law_StateSignals
  simp only [argsE]
  repeat' (first | (with_reducible first | refine Wx.h ?_ | refine Wb.h fun K hK => ?_ | (refine hK _ ?_; clear hK K) | (refine wT ?_ ?_; · assumption) | (refine wF ?_ ?_; · assumption)) | ((with_reducible refine kQ ?_ ?_); kernel_rfl) | ((with_reducible refine k1 ?_ ?_); rfl) | ((with_reducible refine k0 ?_ ?_); rfl) | ((with_reducible apply kB) <;> first | rfl | intro h) | ((with_reducible refine kM ?_ ?_); rfl) | (with_reducible refine Wq.h ?_ ?_) <;> intro h <;> try (exfalso; omega) | (with_reducible refine Wu.h ?_ ?_) <;> intro h <;> try simp only [h] | ((fail_if_success with_reducible refine Wz.h ?_); first | simp (disch := omega) only [↓LD, LA, loadA_rf, seval] | ((with_reducible refine And.intro ?_ ?_); omega) | simp only [D.int, D.bool]))
  refine callW_emb (c_play_Branch steps defs) [] (by kernel_rfl) rfl rfl ?_
  rintro _ _ ⟨b, rfl, hb, rfl⟩
  simp (disch := omega) only [↓LD, LA, loadA_rf, seval, ren, List.getElem?_nil]
  have hbl := hb.len
  have hbs := hb.sgs
  have hbf := hb.fold
  have hbo := hb.ok
  have hno := hb.none
  haveI : Kn (b.length ≤ 1000000) := ⟨by omega⟩
  haveI : Kn (∀ e ∈ b, FitV e) := ⟨hb.fit⟩
  haveI : Kn (Wk12 (foldR s0 b).2) := ⟨hbo.wk⟩
  repeat' (first | (with_reducible first | refine Wx.h ?_ | refine We.h fun K hK => ?_ | refine Wd.h fun K M hK hM => ?_ | (refine hK _ _ _ _ ?_; clear hK K; try clear hM M) | (refine hM ?_; clear hM M; try clear hK K) | refine Wb.h fun K hK => ?_ | (refine hK _ ?_; clear hK K) | (refine wT ?_ ?_; · assumption) | (refine wF ?_ ?_; · assumption)) | ((with_reducible refine kQ ?_ ?_); kernel_rfl) | ((with_reducible refine k1 ?_ ?_); rfl) | ((with_reducible refine k0 ?_ ?_); rfl) | ((with_reducible apply kB) <;> first | rfl | intro h) | ((with_reducible refine kM ?_ ?_); rfl) | (with_reducible refine Wq.h ?_ ?_) <;> intro h <;> try (exfalso; omega) | (with_reducible refine Wu.h ?_ ?_) <;> intro h <;> try simp only [h] | ((fail_if_success with_reducible refine Wz.h ?_); first | simp (disch := omega) only [↓LD, LA, loadA_rf, seval, hbf] | ((with_reducible refine And.intro ?_ ?_); omega) | simp only [D.int, D.bool]))
  have hsl := sigsL_le b
  generalize (foldR s0 b).2 = s at *
  refine HS.loopG [5, 6, 8, 9] (fun i : Nat => ⟨frm 107 [(5, .f (fEv b)), (6, .pt 0 0), (8, D.int (sigsL (b.take i)).length), (9, D.int i)], [stF s], []⟩) (fun i => i ≤ b.length) (fun i => b.length - i) 0 (by kernel_rfl) (Nat.zero_le _) ?_
  rintro i hi
  by_cases hil : i < b.length
  · by_cases h7 : (gt b i).ty = 7
    · obtain ⟨a1, a2, a3⟩ := sigs_step hil h7
      rw [← hbs] at a2 a3
      have a4 : (gt s.sgs (sigsL (b.take i)).length).name = (gt b i).name := by rw [a3]; rfl
      have a5 : (gt s.sgs (sigsL (b.take i)).length).id = (gt b i).id := by rw [a3]; rfl
      have a6 : (gt s.sgs (sigsL (b.take i)).length).data = (gt b i).data := by rw [a3]; rfl
      have a7 : hasSg s.sgs (gt b i).name = true := by rw [hbs]; exact has_sig (gt_mem hil) h7
      have a8 := sigsL_le (b.take i)
      have a9 : (b.take i).length ≤ i := by simp; omega
      repeat' (first | (with_reducible first | refine Wx.h ?_ | refine We.h fun K hK => ?_ | refine Wd.h fun K M hK hM => ?_ | (refine hK _ _ _ _ ?_; clear hK K; try clear hM M) | (refine hM ?_; clear hM M; try clear hK K) | refine Wb.h fun K hK => ?_ | (refine hK _ ?_; clear hK K) | (refine wT ?_ ?_; · assumption) | (refine wF ?_ ?_; · assumption)) | ((with_reducible refine kQ ?_ ?_); kernel_rfl) | ((with_reducible refine k1 ?_ ?_); rfl) | ((with_reducible refine k0 ?_ ?_); rfl) | ((with_reducible apply kB) <;> first | rfl | intro h) | ((with_reducible refine kM ?_ ?_); rfl) | (with_reducible refine Wq.h ?_ ?_) <;> intro h <;> try (exfalso; omega) | (with_reducible refine Wu.h ?_ ?_) <;> intro h <;> try simp only [h] | ((fail_if_success with_reducible refine Wz.h ?_); first | simp (disch := omega) only [↓LD, LA, loadA_rf, seval, LEv, LSt, stF, at0_fEv, at3_fEv, at6_fEv, at7_fEv, at0_fSg, at1_fSg, at2_fSg, len_fEv, len_fSg, Ev.cs, Sg.cs, h7, a4, a5, a6, a7, two_refl, bytes_map] | ((with_reducible refine And.intro ?_ ?_); omega) | simp only [D.int, D.bool]))
      exact Next.mk (i + 1) (by rw [a1]; kernel_rfl) (by omega) (by omega)
    · have a1 := sigs_skip hil h7
      repeat' (first | (with_reducible first | refine Wx.h ?_ | refine We.h fun K hK => ?_ | refine Wd.h fun K M hK hM => ?_ | (refine hK _ _ _ _ ?_; clear hK K; try clear hM M) | (refine hM ?_; clear hM M; try clear hK K) | refine Wb.h fun K hK => ?_ | (refine hK _ ?_; clear hK K) | (refine wT ?_ ?_; · assumption) | (refine wF ?_ ?_; · assumption)) | ((with_reducible refine kQ ?_ ?_); kernel_rfl) | ((with_reducible refine k1 ?_ ?_); rfl) | ((with_reducible refine k0 ?_ ?_); rfl) | ((with_reducible apply kB) <;> first | rfl | intro h) | ((with_reducible refine kM ?_ ?_); rfl) | (with_reducible refine Wq.h ?_ ?_) <;> intro h <;> try (exfalso; omega) | (with_reducible refine Wu.h ?_ ?_) <;> intro h <;> try simp only [h] | ((fail_if_success with_reducible refine Wz.h ?_); first | simp (disch := omega) only [↓LD, LA, loadA_rf, seval, LEv, LSt, stF, at3_fEv, len_fEv, Ev.cs] | ((with_reducible refine And.intro ?_ ?_); omega) | simp only [D.int, D.bool]))
      exact Next.mk (i + 1) (by rw [a1]; kernel_rfl) (by omega) (by omega)
  · rw [List.take_of_length_le (show b.length ≤ i by omega), ← hbs]
    repeat' (first | (with_reducible first | refine Wx.h ?_ | refine Wb.h fun K hK => ?_ | (refine hK _ ?_; clear hK K) | (refine wT ?_ ?_; · assumption) | (refine wF ?_ ?_; · assumption)) | ((with_reducible refine kQ ?_ ?_); kernel_rfl) | ((with_reducible refine k1 ?_ ?_); rfl) | ((with_reducible refine k0 ?_ ?_); rfl) | ((with_reducible apply kB) <;> first | rfl | intro h) | ((with_reducible refine kM ?_ ?_); rfl) | (with_reducible refine Wq.h ?_ ?_) <;> intro h <;> try (exfalso; omega) | (with_reducible refine Wu.h ?_ ?_) <;> intro h <;> try simp only [h] | ((fail_if_success with_reducible refine Wz.h ?_); first | simp (disch := omega) only [↓LD, LA, loadA_rf, seval, LEv, LSt, stF, two_refl] | ((with_reducible refine And.intro ?_ ?_); omega) | simp only [D.int, D.bool]))
    refine callW_pure (c_st_Has s [110, 111, 110, 101, 45] hbo.wk.fit.fit.sgs) rfl rfl rfl ?_
    rw [hbs, hno]
    repeat' (first | (with_reducible first | refine Wx.h ?_ | refine Wb.h fun K hK => ?_ | (refine hK _ ?_; clear hK K) | (refine wT ?_ ?_; · assumption) | (refine wF ?_ ?_; · assumption)) | ((with_reducible refine kQ ?_ ?_); kernel_rfl) | ((with_reducible refine k1 ?_ ?_); rfl) | ((with_reducible refine k0 ?_ ?_); rfl) | ((with_reducible apply kB) <;> first | rfl | intro h) | ((with_reducible refine kM ?_ ?_); rfl) | (with_reducible refine Wq.h ?_ ?_) <;> intro h <;> try (exfalso; omega) | (with_reducible refine Wu.h ?_ ?_) <;> intro h <;> try simp only [h] | ((fail_if_success with_reducible refine Wz.h ?_); first | simp (disch := omega) only [↓LD, LA, loadA_rf, seval] | ((with_reducible refine And.intro ?_ ?_); omega) | simp only [D.int, D.bool]))
    exact end1 rfl rfl (by kernel_rfl) .f ⟨rfl, rfl⟩
end Go.Proofs.YtgbbpelfpagdoaaDoor.Mir

/- StateSignals: its walk as a call. -/
namespace Go.Proofs.YtgbbpelfpagdoaaDoor
open Go Go.RowKit

theorem stateSignals_walk (W : World) (hg : ∀ p ∈ Mir.glTab, Mir.RF W (fun _ => False) p.1 p.2) (a0 : Option Addr) (c0 : Nat) (xs : List RwIn) (a1 : Option Addr) (c1 : Nat) (ys : List RawIn) (h : InS rwV (rwOk W) 64 W a0 c0 xs) (k : InS rawV (rawOk W) 40 W a1 c1 ys) :
    Calls Tryd.prog 3 #[.slice a0 xs.length c0, .slice a1 ys.length c1] W fun e w' => e = .returned (.bool true) ∧ Below W.heap.size W w' :=
  Mir.Con.calls (Mir.c_law_StateSignals (xs.map rwDD) (ys.map rawD)) hg fun _ hA => .one (.f (rf_rws hA h)) (.one (.f (rf_raws hA k)) .none)
end Go.Proofs.YtgbbpelfpagdoaaDoor
