/- Texts laid into one file: StTl, StateTriesIn. -/
import Derived.Test.YtgbbpelfpagdoaaSt11

set_option linter.unusedVariables false
set_option linter.unusedSimpArgs false
/- StateTries: the law's walk. -/
namespace Go.Proofs.Ytgbbpelfpagdoaa.Mir
open Go Go.RowKit
set_option linter.unusedVariables false
set_option linter.unusedSimpArgs false
set_option maxHeartbeats 4000000

theorem fitA_tS {t l g : Int} {n : Nat} (h3 : 1 ≤ l) (h4 : l ≤ 1048576) (hn : n ≤ 5) : FitA (tS t l g n) :=
  ⟨⟨⟨fun d hd => by simp [tS] at hd; subst hd; simp, by simp [tS]⟩, by simp [tS], fun x hx => by simp [tS] at hx; subst hx; simp, by simp [tS], by simp [tS], fun x hx => by simp [tS] at hx⟩,
    ⟨by simp [tS], fun d hd => by simp [tS] at hd; subst hd; simp⟩, fun d hd => by simp [tS] at hd; subst hd; dsimp only; omega, fun x hx => by simp [tS] at hx; subst hx; dsimp only; omega⟩
theorem fitA_tB {t l g : Int} {n : Nat} (h3 : 1 ≤ l) (h4 : l ≤ 1048576) (hn : n ≤ 5) : FitA (tB t l g n) :=
  ⟨⟨⟨fun d hd => by simp [tB] at hd; subst hd; simp, by simp [tB]⟩, by simp [tB], fun x hx => by simp [tB] at hx; subst hx; simp, by simp [tB], by simp [tB], fun x hx => by simp [tB] at hx⟩,
    ⟨by simp [tB], fun d hd => by simp [tB] at hd; subst hd; simp⟩, fun d hd => by simp [tB] at hd; subst hd; dsimp only; omega, fun x hx => by simp [tB] at hx; subst hx; dsimp only; omega⟩
theorem fitA_0 : FitA s0 :=
  ⟨⟨⟨fun d hd => by simp [s0] at hd, by simp [s0]⟩, by simp [s0], fun x hx => by simp [s0] at hx, by simp [s0], by simp [s0], fun x hx => by simp [s0] at hx⟩,
    ⟨by simp [s0], fun d hd => by simp [s0] at hd⟩, fun d hd => by simp [s0] at hd, fun x hx => by simp [s0] at hx⟩
theorem fit0 : Fit [] := ⟨by simp, fun d hd => by simp at hd⟩
/-- Apply, as a call. -/
theorem callW_Apply {s s' : S12} {e : Ev} {v : Int} {H : List Row} {args : List D} {K : D → List Row → Prop} (h : applyL s e = (v, s')) (hs : FitA s) (hd : e.data.length ≤ 1000000) (hf : Fit e.defs) (hi : 0 ≤ s.id ∧ s.id < 1000000000) (ha : WDs args [stD s, evD e])
    (hk : K (.tp [stD s', D.int v]) H) : callW Try.prog (.fn 5 []) args H K := by
  refine callW_less (callW_pure (d0 := .tp [stD s', D.int v]) ?_ rfl rfl rfl hk) ha
  have := c_st_Apply s e hs hd hf hi
  rw [h] at this
  exact this
theorem tB_nodes {t l g : Int} {n : Nat} : (tB t l g (n + 1)).nodes = [⟨1, (n : Int) + 1, ((n : Int) + 1) * g + l, []⟩] := id rfl
theorem tS_nodes' {t l g : Int} {n : Nat} : (tS t l g (n + 1)).nodes = [⟨if (n : Int) + 1 = t then 3 else 0, (n : Int) + 1, 0, []⟩] := id rfl
theorem tS_nodes {t l g : Int} {n : Nat} : (tS t l g n).nodes = [⟨if (n : Int) = t then 3 else 0, n, 0, []⟩] := id rfl
theorem f_cons {x : Nn} {l : List Nn} : (x :: l).flatMap Nn.cs = iF x.st :: iF x.tr :: iF x.due :: fY x.data :: l.flatMap Nn.cs := id rfl
theorem f_nil : ([] : List Nn).flatMap Nn.cs = [] := id rfl
theorem len1 {α : Type} {x : α} : ([x] : List α).length = 1 := id rfl
theorem l0 {α : Type} {x : α} {l : List α} : (x :: l)[0]? = some x := id rfl
set_option maxRecDepth 100000 in
theorem c_law_StateTries (a b c : Int) : Con Try.prog 3 [D.int a, D.int b, D.int c] [] fun r H' => r = D.bool true ∧ H' = [] := by
  obtain ⟨t1, t2⟩ := pick_in (x := a) (n := 5) (by omega)
  obtain ⟨l1, l2⟩ := pick_in (x := b) (n := 50) (by omega)
  obtain ⟨g1, g2⟩ := pick_in (x := c) (n := 9) (by omega)
  refine Con.walk good fn_law_StateTries (by simp) ?_
  unfold s_law_StateTries
  simp only [argsE]
  repeat' (first | (with_reducible first | refine Wa.h ?_ | refine We.h fun K hK => ?_ | refine Wd.h fun K M hK hM => ?_ | (refine hK _ _ _ _ ?_; clear hK K; try clear hM M) | (refine hM ?_; clear hM M; try clear hK K) | refine Ws.h ?_ | refine Wr.h ?_ | refine Wb.h fun K hK => ?_ | (refine hK _ ?_; clear hK K)) | ((with_reducible refine kQ ?_ ?_); kernel_rfl) | ((with_reducible refine k1 ?_ ?_); rfl) | ((with_reducible refine k0 ?_ ?_); rfl) | ((with_reducible apply kB) <;> first | rfl | intro h) | ((with_reducible refine kM ?_ ?_); rfl) | ((with_reducible refine wuT ?_ ?_); · assumption) | ((with_reducible refine wuF ?_ ?_); · assumption) | ((with_reducible refine wtT ?_ ?_); · assumption) | ((with_reducible refine wtF ?_ ?_); · assumption) | (with_reducible refine Wt.h (fun h => ?_) (fun h => ?_)) <;> try (exfalso; omega) | (with_reducible refine Wu.h (fun h => ?_) (fun h => ?_)) <;> try simp only [h] | (with_reducible refine Wn.h (fun h => ?_) ?_) <;> try (exfalso; omega) | ((fail_if_success with_reducible refine Wz.h ?_); simp (disch := omega) only [↓LD, LU, LS, LT, loadA_rf, seval, LSt]) | ((with_reducible refine And.intro ?_ ?_); omega) | ((fail_if_success with_reducible refine Wz.h ?_); simp only [D.int, D.bool]))
  generalize hT : 1 + pick a 5 = t at *
  generalize hL : 1 + pick b 50 = l at *
  generalize pick c 9 = g at *
  have h1 : 1 ≤ t := by omega
  have h2 : t ≤ 5 := by omega
  have h3 : 1 ≤ l := by omega
  have h4 : l ≤ 1048576 := by omega
  refine callW_lay [0] (.cons (.ags (.cons .f (.cons .f (.cons .f (.cons .f (.cons .f (.cons .f (.cons .f (.cons .f (.cons .f .nil)))))))))) (.cons (.ags (.cons .f (.cons .f (.cons .f (.cons .f (.cons .f (.cons .f (.cons .f (.cons .f (.cons (.sl (T := 34) (xs := [F.v (.slice none 0 0), iF t, iF l]) rfl (fun e => by cases e)) .nil)))))))))) .nil)) ?_
  simp only [layV, List.foldr_cons, List.foldr_nil, List.set_cons_zero]
  refine callW_Apply (s := s0) (e := evS t l) (tr_start (g := g) h1 h2 h3 h4) fitA_0 (by simp [evS]) ⟨by simp [evS], fun d hd => by simp [evS] at hd; subst hd; simp⟩ (by simp [s0]) ?_ ?_
  · simp only [stD, evD, s0, evS, fG, fNn, fTm, fSg, fY, fI, Nd.cs, List.flatMap_cons, List.flatMap_nil, List.append_nil, List.map_nil, List.length_nil, List.length_cons, List.drop_zero]
    repeat' (first | exact WDs.nil | refine WDs.cons ?_ ?_ | exact WD.refl | exact WD.f .ns | exact WD.f .es | refine WD.ags ?_ | refine WD.f (WF.ls ?_) | exact WFs.nil | refine WFs.cons ?_ ?_ | exact WF.refl | exact WF.ns | exact WF.es)
  repeat' (first | (with_reducible first | refine Wa.h ?_ | refine We.h fun K hK => ?_ | refine Wd.h fun K M hK hM => ?_ | (refine hK _ _ _ _ ?_; clear hK K; try clear hM M) | (refine hM ?_; clear hM M; try clear hK K) | refine Ws.h ?_ | refine Wr.h ?_ | refine Wb.h fun K hK => ?_ | (refine hK _ ?_; clear hK K)) | ((with_reducible refine kQ ?_ ?_); kernel_rfl) | ((with_reducible refine k1 ?_ ?_); rfl) | ((with_reducible refine k0 ?_ ?_); rfl) | ((with_reducible apply kB) <;> first | rfl | intro h) | ((with_reducible refine kM ?_ ?_); rfl) | ((with_reducible refine wuT ?_ ?_); · assumption) | ((with_reducible refine wuF ?_ ?_); · assumption) | ((with_reducible refine wtT ?_ ?_); · assumption) | ((with_reducible refine wtF ?_ ?_); · assumption) | (with_reducible refine Wt.h (fun h => ?_) (fun h => ?_)) <;> try (exfalso; omega) | (with_reducible refine Wu.h (fun h => ?_) (fun h => ?_)) <;> try simp only [h] | (with_reducible refine Wn.h (fun h => ?_) ?_) <;> try (exfalso; omega) | ((fail_if_success with_reducible refine Wz.h ?_); simp (disch := omega) only [↓LD, LU, LS, LT, loadA_rf, seval, LSt, stD]) | ((with_reducible refine And.intro ?_ ?_); omega) | ((fail_if_success with_reducible refine Wz.h ?_); simp only [D.int, D.bool]))
  refine HS.loopG [0, 1, 2, 7, 8, 9] (fun n : Nat => ⟨frm 151 [(0, D.int t), (1, D.int l), (2, D.int g), (7, .pt 0 0), (8, D.int 0), (9, D.int (n + 1))], [stF (tS t l g n)], []⟩)
    (fun n => (n : Int) ≤ t) (fun n => t.toNat - n) 0 (by kernel_rfl) (by simp; omega) ?_
  rintro n hn
  by_cases hlt : (n : Int) < t
  · have ht := tr_time h2 g1 g2 (show ((n + 1 : Nat) : Int) ≤ t by omega)
    rw [show ((n + 1 : Nat) : Int) = (n : Int) + 1 from rfl] at ht
    repeat' (first | (with_reducible first | refine Wa.h ?_ | refine We.h fun K hK => ?_ | refine Wd.h fun K M hK hM => ?_ | (refine hK _ _ _ _ ?_; clear hK K; try clear hM M) | (refine hM ?_; clear hM M; try clear hK K) | refine Ws.h ?_ | refine Wr.h ?_ | refine Wb.h fun K hK => ?_ | (refine hK _ ?_; clear hK K)) | ((with_reducible refine kQ ?_ ?_); kernel_rfl) | ((with_reducible refine k1 ?_ ?_); rfl) | ((with_reducible refine k0 ?_ ?_); rfl) | ((with_reducible apply kB) <;> first | rfl | intro h) | ((with_reducible refine kM ?_ ?_); rfl) | ((with_reducible refine wuT ?_ ?_); · assumption) | ((with_reducible refine wuF ?_ ?_); · assumption) | ((with_reducible refine wtT ?_ ?_); · assumption) | ((with_reducible refine wtF ?_ ?_); · assumption) | (with_reducible refine Wt.h (fun h => ?_) (fun h => ?_)) <;> try (exfalso; omega) | (with_reducible refine Wu.h (fun h => ?_) (fun h => ?_)) <;> try simp only [h] | (with_reducible refine Wn.h (fun h => ?_) ?_) <;> try (exfalso; omega) | ((fail_if_success with_reducible refine Wz.h ?_); simp (disch := omega) only [↓LD, LU, LS, LT, loadA_rf, seval, LSt, stF]) | ((with_reducible refine And.intro ?_ ?_); omega) | ((fail_if_success with_reducible refine Wz.h ?_); simp only [D.int, D.bool]))
    refine callW_Apply (s := tS t l g n) (e := evB2 g (n + 1)) (tr_begin h1 h2 h3 h4 g1 g2 hlt) (fitA_tS h3 h4 (by omega)) (by simp [evB2]) fit0 (by simp [tS]; omega) ?_ ?_
    · simp only [stD, evD, evB2]
      repeat' (first | exact WDs.nil | refine WDs.cons ?_ ?_ | exact WD.refl | exact WD.f .ns | exact WD.f .es | refine WD.ags ?_ | refine WD.f (WF.ls ?_) | exact WFs.nil | refine WFs.cons ?_ ?_ | exact WF.refl | exact WF.ns | exact WF.es)
    repeat' (first | (with_reducible first | refine Wa.h ?_ | refine We.h fun K hK => ?_ | refine Wd.h fun K M hK hM => ?_ | (refine hK _ _ _ _ ?_; clear hK K; try clear hM M) | (refine hM ?_; clear hM M; try clear hK K) | refine Ws.h ?_ | refine Wr.h ?_ | refine Wb.h fun K hK => ?_ | (refine hK _ ?_; clear hK K)) | ((with_reducible refine kQ ?_ ?_); kernel_rfl) | ((with_reducible refine k1 ?_ ?_); rfl) | ((with_reducible refine k0 ?_ ?_); rfl) | ((with_reducible apply kB) <;> first | rfl | intro h) | ((with_reducible refine kM ?_ ?_); rfl) | ((with_reducible refine wuT ?_ ?_); · assumption) | ((with_reducible refine wuF ?_ ?_); · assumption) | ((with_reducible refine wtT ?_ ?_); · assumption) | ((with_reducible refine wtF ?_ ?_); · assumption) | (with_reducible refine Wt.h (fun h => ?_) (fun h => ?_)) <;> try (exfalso; omega) | (with_reducible refine Wu.h (fun h => ?_) (fun h => ?_)) <;> try simp only [h] | (with_reducible refine Wn.h (fun h => ?_) ?_) <;> try (exfalso; omega) | ((fail_if_success with_reducible refine Wz.h ?_); simp (disch := omega) only [↓LD, LU, LS, LT, loadA_rf, seval, LSt, stD, tB_nodes, f_cons, f_nil, len1, l0]) | ((with_reducible refine And.intro ?_ ?_); omega) | ((fail_if_success with_reducible refine Wz.h ?_); simp only [D.int, D.bool]))
    refine callW_pure (c_st_ReadyF (tB t l g (n + 1)) (fitA_tB h3 h4 (by omega)).defs (by simp [tB])) rfl rfl rfl ?_
    rw [tr_readyB h1 h2 h3 h4]
    repeat' (first | (with_reducible first | refine Wa.h ?_ | refine We.h fun K hK => ?_ | refine Wd.h fun K M hK hM => ?_ | (refine hK _ _ _ _ ?_; clear hK K; try clear hM M) | (refine hM ?_; clear hM M; try clear hK K) | refine Ws.h ?_ | refine Wr.h ?_ | refine Wb.h fun K hK => ?_ | (refine hK _ ?_; clear hK K)) | ((with_reducible refine kQ ?_ ?_); kernel_rfl) | ((with_reducible refine k1 ?_ ?_); rfl) | ((with_reducible refine k0 ?_ ?_); rfl) | ((with_reducible apply kB) <;> first | rfl | intro h) | ((with_reducible refine kM ?_ ?_); rfl) | ((with_reducible refine wuT ?_ ?_); · assumption) | ((with_reducible refine wuF ?_ ?_); · assumption) | ((with_reducible refine wtT ?_ ?_); · assumption) | ((with_reducible refine wtF ?_ ?_); · assumption) | (with_reducible refine Wt.h (fun h => ?_) (fun h => ?_)) <;> try (exfalso; omega) | (with_reducible refine Wu.h (fun h => ?_) (fun h => ?_)) <;> try simp only [h] | (with_reducible refine Wn.h (fun h => ?_) ?_) <;> try (exfalso; omega) | ((fail_if_success with_reducible refine Wz.h ?_); simp (disch := omega) only [↓LD, LU, LS, LT, loadA_rf, seval, LSt, stD, tB_nodes, f_cons, f_nil, len1, l0]) | ((with_reducible refine And.intro ?_ ?_); omega) | ((fail_if_success with_reducible refine Wz.h ?_); simp only [D.int, D.bool]))
    refine callW_Apply (s := tB t l g (n + 1)) (e := evX g (n + 1)) (tr_broke h1 h2 h3 h4 g1 g2 hlt) (fitA_tB h3 h4 (by omega)) (by simp [evX]) fit0 (by simp [tB]; omega) ?_ ?_
    · simp only [stD, evD, evX]
      repeat' (first | exact WDs.nil | refine WDs.cons ?_ ?_ | exact WD.refl | exact WD.f .ns | exact WD.f .es | refine WD.ags ?_ | refine WD.f (WF.ls ?_) | exact WFs.nil | refine WFs.cons ?_ ?_ | exact WF.refl | exact WF.ns | exact WF.es)
    repeat' (first | (with_reducible first | refine Wa.h ?_ | refine We.h fun K hK => ?_ | refine Wd.h fun K M hK hM => ?_ | (refine hK _ _ _ _ ?_; clear hK K; try clear hM M) | (refine hM ?_; clear hM M; try clear hK K) | refine Ws.h ?_ | refine Wr.h ?_ | refine Wb.h fun K hK => ?_ | (refine hK _ ?_; clear hK K)) | ((with_reducible refine kQ ?_ ?_); kernel_rfl) | ((with_reducible refine k1 ?_ ?_); rfl) | ((with_reducible refine k0 ?_ ?_); rfl) | ((with_reducible apply kB) <;> first | rfl | intro h) | ((with_reducible refine kM ?_ ?_); rfl) | ((with_reducible refine wuT ?_ ?_); · assumption) | ((with_reducible refine wuF ?_ ?_); · assumption) | ((with_reducible refine wtT ?_ ?_); · assumption) | ((with_reducible refine wtF ?_ ?_); · assumption) | (with_reducible refine Wt.h (fun h => ?_) (fun h => ?_)) <;> try (exfalso; omega) | (with_reducible refine Wu.h (fun h => ?_) (fun h => ?_)) <;> try simp only [h] | (with_reducible refine Wn.h (fun h => ?_) ?_) <;> try (exfalso; omega) | ((fail_if_success with_reducible refine Wz.h ?_); simp (disch := omega) only [↓LD, LU, LS, LT, loadA_rf, seval, LSt, stD, tS_nodes', f_cons, f_nil, len1, l0]) | ((with_reducible refine And.intro ?_ ?_); omega) | ((fail_if_success with_reducible refine Wz.h ?_); simp only [D.int, D.bool]))
    all_goals exact Next.mk (n + 1) (by kernel_rfl) (by omega) (by omega)
  · obtain rfl : t = n := by omega
    repeat' (first | (with_reducible first | refine Wa.h ?_ | refine We.h fun K hK => ?_ | refine Wd.h fun K M hK hM => ?_ | (refine hK _ _ _ _ ?_; clear hK K; try clear hM M) | (refine hM ?_; clear hM M; try clear hK K) | refine Ws.h ?_ | refine Wr.h ?_ | refine Wb.h fun K hK => ?_ | (refine hK _ ?_; clear hK K)) | ((with_reducible refine kQ ?_ ?_); kernel_rfl) | ((with_reducible refine k1 ?_ ?_); rfl) | ((with_reducible refine k0 ?_ ?_); rfl) | ((with_reducible apply kB) <;> first | rfl | intro h) | ((with_reducible refine kM ?_ ?_); rfl) | ((with_reducible refine wuT ?_ ?_); · assumption) | ((with_reducible refine wuF ?_ ?_); · assumption) | ((with_reducible refine wtT ?_ ?_); · assumption) | ((with_reducible refine wtF ?_ ?_); · assumption) | (with_reducible refine Wt.h (fun h => ?_) (fun h => ?_)) <;> try (exfalso; omega) | (with_reducible refine Wu.h (fun h => ?_) (fun h => ?_)) <;> try simp only [h] | (with_reducible refine Wn.h (fun h => ?_) ?_) <;> try (exfalso; omega) | ((fail_if_success with_reducible refine Wz.h ?_); simp (disch := omega) only [↓LD, LU, LS, LT, loadA_rf, seval, LSt, stF]) | ((with_reducible refine And.intro ?_ ?_); omega) | ((fail_if_success with_reducible refine Wz.h ?_); simp only [D.int, D.bool]))
    refine callW_Apply (s := tS n l g n) (e := evL n) (s' := (applyL (tS n l g n) (evL n)).2) (v := 4) (Prod.ext (tr_last h1 h2 h3 h4 g1 g2 rfl) rfl) (fitA_tS h3 h4 (by omega)) (by simp [evL]) fit0 (by simp [tS]; omega) ?_ ?_
    · simp only [stD, evD, evL]
      repeat' (first | exact WDs.nil | refine WDs.cons ?_ ?_ | exact WD.refl | exact WD.f .ns | exact WD.f .es | refine WD.ags ?_ | refine WD.f (WF.ls ?_) | exact WFs.nil | refine WFs.cons ?_ ?_ | exact WF.refl | exact WF.ns | exact WF.es)
    repeat' (first | (with_reducible first | refine Wa.h ?_ | refine We.h fun K hK => ?_ | refine Wd.h fun K M hK hM => ?_ | (refine hK _ _ _ _ ?_; clear hK K; try clear hM M) | (refine hM ?_; clear hM M; try clear hK K) | refine Ws.h ?_ | refine Wr.h ?_ | refine Wb.h fun K hK => ?_ | (refine hK _ ?_; clear hK K)) | ((with_reducible refine kQ ?_ ?_); kernel_rfl) | ((with_reducible refine k1 ?_ ?_); rfl) | ((with_reducible refine k0 ?_ ?_); rfl) | ((with_reducible apply kB) <;> first | rfl | intro h) | ((with_reducible refine kM ?_ ?_); rfl) | ((with_reducible refine wuT ?_ ?_); · assumption) | ((with_reducible refine wuF ?_ ?_); · assumption) | ((with_reducible refine wtT ?_ ?_); · assumption) | ((with_reducible refine wtF ?_ ?_); · assumption) | (with_reducible refine Wt.h (fun h => ?_) (fun h => ?_)) <;> try (exfalso; omega) | (with_reducible refine Wu.h (fun h => ?_) (fun h => ?_)) <;> try simp only [h] | (with_reducible refine Wn.h (fun h => ?_) ?_) <;> try (exfalso; omega) | ((fail_if_success with_reducible refine Wz.h ?_); simp (disch := omega) only [↓LD, LU, LS, LT, loadA_rf, seval, LSt, stD]) | ((with_reducible refine And.intro ?_ ?_); omega) | ((fail_if_success with_reducible refine Wz.h ?_); simp only [D.int, D.bool]))
    refine callW_pure (c_st_Ending (tS n l g n) (by simp [tS])) rfl rfl rfl ?_
    rw [tr_end rfl]
    repeat' (first | (with_reducible first | refine Wa.h ?_ | refine We.h fun K hK => ?_ | refine Wd.h fun K M hK hM => ?_ | (refine hK _ _ _ _ ?_; clear hK K; try clear hM M) | (refine hM ?_; clear hM M; try clear hK K) | refine Ws.h ?_ | refine Wr.h ?_ | refine Wb.h fun K hK => ?_ | (refine hK _ ?_; clear hK K)) | ((with_reducible refine kQ ?_ ?_); kernel_rfl) | ((with_reducible refine k1 ?_ ?_); rfl) | ((with_reducible refine k0 ?_ ?_); rfl) | ((with_reducible apply kB) <;> first | rfl | intro h) | ((with_reducible refine kM ?_ ?_); rfl) | ((with_reducible refine wuT ?_ ?_); · assumption) | ((with_reducible refine wuF ?_ ?_); · assumption) | ((with_reducible refine wtT ?_ ?_); · assumption) | ((with_reducible refine wtF ?_ ?_); · assumption) | (with_reducible refine Wt.h (fun h => ?_) (fun h => ?_)) <;> try (exfalso; omega) | (with_reducible refine Wu.h (fun h => ?_) (fun h => ?_)) <;> try simp only [h] | (with_reducible refine Wn.h (fun h => ?_) ?_) <;> try (exfalso; omega) | ((fail_if_success with_reducible refine Wz.h ?_); simp (disch := omega) only [↓LD, LU, LS, LT, loadA_rf, seval]) | ((with_reducible refine And.intro ?_ ?_); omega) | ((fail_if_success with_reducible refine Wz.h ?_); simp only [D.int, D.bool]))
    exact end1 rfl rfl (by kernel_rfl) .f ⟨rfl, rfl⟩
end Go.Proofs.Ytgbbpelfpagdoaa.Mir

/- StateTries: its walk as a call. -/
namespace Go.Proofs.Ytgbbpelfpagdoaa
open Go Go.RowKit

theorem stateTries_walk (W : World) (a b c : Int) (_ : -9223372036854775808 ≤ a ∧ a ≤ 9223372036854775807) (_ : -9223372036854775808 ≤ b ∧ b ≤ 9223372036854775807) (_ : -9223372036854775808 ≤ c ∧ c ≤ 9223372036854775807) :
    Calls Try.prog 3 #[.int .i64 a, .int .i64 b, .int .i64 c] W fun e w' => e = .returned (.bool true) ∧ Below W.heap.size W w' :=
  Mir.Con.calls (Mir.c_law_StateTries a b c) (fun p hp => by cases hp) fun _ _ => .one (.f (.v rfl)) (.one (.f (.v rfl)) (.one (.f (.v rfl)) .none))
end Go.Proofs.Ytgbbpelfpagdoaa
