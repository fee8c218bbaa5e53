/- Texts laid into one file: StG, StH, StI, StJ, StTm, CHand, Hand, CLawStateT, StTn, Lay. -/
import Derived.Test.YtgbbpelfpagdoaaSt10

set_option linter.unusedVariables false
set_option linter.unusedSimpArgs false
/- A run's state: a timer is armed, a signal is taken, a run is started: a list in another row. -/
namespace Go.Proofs.Ytgbbpelfpagdoaa.Mir
open Go Go.RowKit
set_option linter.unusedVariables false
set_option linter.unusedSimpArgs false
set_option maxHeartbeats 4000000

instance {ds : List Nd} {H : List Row} {K : D → List Row → Prop} [hf : Kn (Fit ds)] : Wa (callW Try.prog (.fn 21 []) [.f (fG ds)] H K) (K (.f (.v (.int .i64 (checkL ds)))) H) :=
  ⟨fun h => callW_pure (c_dag_Check ds hf.h) rfl rfl rfl h⟩
instance {ds : List Nd} {H : List Row} {K : Bool → D → List Row → Prop} [hf : Kn (Fit ds)] : Wa (callDr Try.prog (.fn 21 []) [.f (fG ds)] H K) (K true (.f (.v (.int .i64 (checkL ds)))) H) :=
  ⟨fun h => callDr_pure (c_dag_Check ds hf.h) rfl rfl rfl h⟩
/-- The rows of a state, of which one may lie elsewhere. -/
def stM : Nat → S12 → List Row
  | 0, s => stH s
  | 1, s => [.box 28 (stL 4 2 3 s), .dead, rT s.tms, rS s.sgs, rN s.nodes]
  | 2, s => [.box 28 (stL 1 4 3 s), rN s.nodes, .dead, rS s.sgs, rT s.tms]
  | _, s => [.box 28 (stL 1 2 4 s), rN s.nodes, rT s.tms, .dead, rS s.sgs]
def armL (s : S12) (e : Ev) : Int × S12 :=
  if 0 ≤ tmI s.tms e.name then (13, s) else if 8 ≤ s.tms.length then (4, s)
  else (0, { s with tms := s.tms ++ [(⟨e.name, e.time + e.n, false⟩ : Tm)] })
set_option maxRecDepth 100000 in
theorem c_st_arm (s : S12) (e : Ev) (hl : s.tms.length ≤ 1000000) (ht : 0 ≤ e.time ∧ e.time ≤ 1099511627776) (hn : 0 ≤ e.n ∧ e.n ≤ 1048576) :
    Con Try.prog 34 [.pt 0 0, evD e] (stH s) fun r H' => r = D.int (armL s e).1 ∧ (H' = stH (armL s e).2 ∨ H' = stM 2 (armL s e).2) := by
  obtain ⟨id, ver, time, closed, cancel, defs, nodes, tms, sgs⟩ := s
  dsimp only at hl
  suffices hh : ∀ Q : D → List Row → Prop, (∀ r H', r = D.int (armL ⟨id, ver, time, closed, cancel, defs, nodes, tms, sgs⟩ e).1 → (H' = stH (armL ⟨id, ver, time, closed, cancel, defs, nodes, tms, sgs⟩ e).2 ∨ H' = stM 2 (armL ⟨id, ver, time, closed, cancel, defs, nodes, tms, sgs⟩ e).2) → Q r H') → Con Try.prog 34 [.pt 0 0, evD e] (stH ⟨id, ver, time, closed, cancel, defs, nodes, tms, sgs⟩) Q from hh _ fun _ _ h1 h2 => ⟨h1, h2⟩
  intro Q hQ
  refine Con.walk good fn_st_arm (by simp) ?_
  unfold s_st_arm
  simp only [argsE, evD, stH, stL, rN, rT, rS]
  repeat' (first | (with_reducible first | refine Wa.h ?_ | refine We.h fun K hK => ?_ | refine Wd.h fun K M hK hM => ?_ | (refine hK _ _ _ _ ?_; clear hK K; try clear hM M) | (refine hM ?_; clear hM M; try clear hK K) | refine Ws.h ?_ | refine Wr.h ?_ | refine Wb.h fun K hK => ?_ | (refine hK _ ?_; clear hK K)) | ((with_reducible refine kQ ?_ ?_); kernel_rfl) | ((with_reducible refine k1 ?_ ?_); rfl) | ((with_reducible refine k0 ?_ ?_); rfl) | ((with_reducible apply kB) <;> first | rfl | intro h) | ((with_reducible refine kM ?_ ?_); rfl) | ((with_reducible refine wuT ?_ ?_); · assumption) | ((with_reducible refine wuF ?_ ?_); · assumption) | ((with_reducible refine wtT ?_ ?_); · assumption) | ((with_reducible refine wtF ?_ ?_); · assumption) | (with_reducible refine Wt.h (fun h => ?_) (fun h => ?_)) <;> try (exfalso; omega) | (with_reducible refine Wu.h (fun h => ?_) (fun h => ?_)) <;> try simp only [h] | (with_reducible refine Wn.h (fun h => ?_) ?_) <;> try (exfalso; omega) | ((fail_if_success with_reducible refine Wz.h ?_); simp (disch := omega) only [↓LD, LU, LS, LT, loadA_rf, seval, LSt, len_fTm]) | ((with_reducible refine And.intro ?_ ?_); omega) | ((fail_if_success with_reducible refine Wz.h ?_); simp only [D.int, D.bool]))
  · have hb : armL ⟨id, ver, time, closed, cancel, defs, nodes, tms, sgs⟩ e = (13, ⟨id, ver, time, closed, cancel, defs, nodes, tms, sgs⟩) := by
      unfold armL; rw [if_pos (by assumption)]
    rw [hb] at hQ
    exact end1 rfl rfl (by kernel_rfl) .f (hQ _ _ rfl (.inl rfl))
  · have hb : armL ⟨id, ver, time, closed, cancel, defs, nodes, tms, sgs⟩ e = (4, ⟨id, ver, time, closed, cancel, defs, nodes, tms, sgs⟩) := by
      unfold armL; rw [if_neg (by assumption), if_pos (show 8 ≤ tms.length by omega)]
    rw [hb] at hQ
    exact end1 rfl rfl (by kernel_rfl) .f (hQ _ _ rfl (.inl rfl))
  · have hb : armL ⟨id, ver, time, closed, cancel, defs, nodes, tms, sgs⟩ e = (0, ⟨id, ver, time, closed, cancel, defs, nodes, tms ++ [(⟨e.name, e.time + e.n, false⟩ : Tm)], sgs⟩) := by
      unfold armL; rw [if_neg (by assumption), if_neg (show ¬ 8 ≤ tms.length by omega)]
    rw [hb] at hQ
    have e1 : tms.flatMap Tm.cs ++ [F.v (.string (BB e.name)), .v (.int .i64 (e.time + e.n)), .v (.bool false)] = (tms ++ [(⟨e.name, e.time + e.n, false⟩ : Tm)]).flatMap Tm.cs := by simp [Tm.cs]
    have e2 : tms.length + 1 = (tms ++ [(⟨e.name, e.time + e.n, false⟩ : Tm)]).length := by simp
    rw [e1, e2]
    exact endG rfl rfl (ef := ⟨D.int 0, [(0, .box 28 (stL 1 4 3 ⟨id, ver, time, closed, cancel, defs, nodes, tms ++ [(⟨e.name, e.time + e.n, false⟩ : Tm)], sgs⟩)), (1, rN nodes), (2, .dead), (3, rS sgs)], [rT (tms ++ [(⟨e.name, e.time + e.n, false⟩ : Tm)])]⟩) (by kernel_rfl) (hQ _ _ rfl (.inr rfl))
def signalL (s : S12) (e : Ev) : Int × S12 :=
  if hasSg s.sgs e.name = true then (13, s) else (0, { s with sgs := s.sgs ++ [(⟨e.name, e.id, e.data⟩ : Sg)] })
set_option maxRecDepth 100000 in
theorem c_st_signal (s : S12) (e : Ev) (hl : s.sgs.length ≤ 1000000) (hd : e.data.length ≤ 1000000) :
    Con Try.prog 36 [.pt 0 0, evD e] (stH s) fun r H' => r = D.int (signalL s e).1 ∧ (H' = stH (signalL s e).2 ∨ H' = stM 3 (signalL s e).2) := by
  obtain ⟨id, ver, time, closed, cancel, defs, nodes, tms, sgs⟩ := s
  dsimp only at hl
  suffices hh : ∀ Q : D → List Row → Prop, (∀ r H', r = D.int (signalL ⟨id, ver, time, closed, cancel, defs, nodes, tms, sgs⟩ e).1 → (H' = stH (signalL ⟨id, ver, time, closed, cancel, defs, nodes, tms, sgs⟩ e).2 ∨ H' = stM 3 (signalL ⟨id, ver, time, closed, cancel, defs, nodes, tms, sgs⟩ e).2) → Q r H') → Con Try.prog 36 [.pt 0 0, evD e] (stH ⟨id, ver, time, closed, cancel, defs, nodes, tms, sgs⟩) Q from hh _ fun _ _ h1 h2 => ⟨h1, h2⟩
  intro Q hQ
  refine Con.walk good fn_st_signal (by simp) ?_
  unfold s_st_signal
  simp only [argsE, evD, stH, stL, rN, rT, rS]
  repeat' (first | (with_reducible first | refine Wa.h ?_ | refine We.h fun K hK => ?_ | refine Wd.h fun K M hK hM => ?_ | (refine hK _ _ _ _ ?_; clear hK K; try clear hM M) | (refine hM ?_; clear hM M; try clear hK K) | refine Ws.h ?_ | refine Wr.h ?_ | refine Wb.h fun K hK => ?_ | (refine hK _ ?_; clear hK K)) | ((with_reducible refine kQ ?_ ?_); kernel_rfl) | ((with_reducible refine k1 ?_ ?_); rfl) | ((with_reducible refine k0 ?_ ?_); rfl) | ((with_reducible apply kB) <;> first | rfl | intro h) | ((with_reducible refine kM ?_ ?_); rfl) | ((with_reducible refine wuT ?_ ?_); · assumption) | ((with_reducible refine wuF ?_ ?_); · assumption) | ((with_reducible refine wtT ?_ ?_); · assumption) | ((with_reducible refine wtF ?_ ?_); · assumption) | (with_reducible refine Wt.h (fun h => ?_) (fun h => ?_)) <;> try (exfalso; omega) | (with_reducible refine Wu.h (fun h => ?_) (fun h => ?_)) <;> try simp only [h] | (with_reducible refine Wn.h (fun h => ?_) ?_) <;> try (exfalso; omega) | ((fail_if_success with_reducible refine Wz.h ?_); simp (disch := omega) only [↓LD, LU, LS, LT, loadA_rf, seval, LSt, len_fSg]) | ((with_reducible refine And.intro ?_ ?_); omega) | ((fail_if_success with_reducible refine Wz.h ?_); simp only [D.int, D.bool]))
  · have hb : signalL ⟨id, ver, time, closed, cancel, defs, nodes, tms, sgs⟩ e = (13, ⟨id, ver, time, closed, cancel, defs, nodes, tms, sgs⟩) := by
      unfold signalL; rw [if_pos (by assumption)]
    rw [hb] at hQ
    exact end1 rfl rfl (by kernel_rfl) .f (hQ _ _ rfl (.inl rfl))
  · have hb : signalL ⟨id, ver, time, closed, cancel, defs, nodes, tms, sgs⟩ e = (0, ⟨id, ver, time, closed, cancel, defs, nodes, tms, sgs ++ [(⟨e.name, e.id, e.data⟩ : Sg)]⟩) := by
      unfold signalL; rw [if_neg (by simp_all)]
    rw [hb] at hQ
    have e1 : sgs.flatMap Sg.cs ++ [F.v (.string (BB e.name)), .v (.int .i64 e.id), fY e.data] = (sgs ++ [(⟨e.name, e.id, e.data⟩ : Sg)]).flatMap Sg.cs := by simp [Sg.cs]
    have e2 : sgs.length + 1 = (sgs ++ [(⟨e.name, e.id, e.data⟩ : Sg)]).length := by simp
    rw [e1, e2]
    exact endG rfl rfl (ef := ⟨D.int 0, [(0, .box 28 (stL 1 2 4 ⟨id, ver, time, closed, cancel, defs, nodes, tms, sgs ++ [(⟨e.name, e.id, e.data⟩ : Sg)]⟩)), (1, rN nodes), (2, rT tms), (3, .dead)], [rS (sgs ++ [(⟨e.name, e.id, e.data⟩ : Sg)])]⟩) (by kernel_rfl) (hQ _ _ rfl (.inr rfl))
def nd0 : Nn := ⟨0, 0, 0, []⟩
theorem mk_nn (n : Nat) : ∀ (i : Nat) (x y : F), ((List.range (n * 4)).map (fun j => [F.v (.int .i64 0), F.v (.int .i64 0), F.v (.int .i64 0), F.v (.slice none 0 0)].getD (j % 4) (.v Go.undef)))[i]? = some x →
    ((List.replicate n nd0).flatMap Nn.cs)[i]? = some y → x = y ∨ (x = .v (.slice none 0 0) ∧ y = .s [] 0) := by
  intro i x y hx hy
  have hi : i < n * 4 := by have := (List.getElem?_eq_some_iff.1 hx).1; simpa using this
  rw [List.getElem?_map, List.getElem?_range hi] at hx
  obtain ⟨k, j, rfl, hj⟩ : ∃ k j, i = k * 4 + j ∧ j < 4 := ⟨i / 4, i % 4, by omega, by omega⟩
  have hk : k < (List.replicate n nd0).length := by rw [List.length_replicate]; omega
  rw [flat_at cs_Nn hk hj, show gt (List.replicate n nd0) k = nd0 by rw [gt_eq hk]; simp] at hy
  rw [Option.map_some, show (k * 4 + j) % 4 = j by omega] at hx
  rcases j with _ | _ | _ | _ | j
  all_goals (simp [nd0, Nn.cs] at hx hy; try (subst hx; subst hy; first | exact .inl rfl | exact .inr ⟨rfl, rfl⟩))
def startL (s : S12) (e : Ev) : Int × S12 :=
  if checkL e.defs = 0 then (0, { s with defs := e.defs, nodes := List.replicate e.defs.length nd0 }) else (1, s)
set_option maxRecDepth 100000 in
theorem c_st_start (s : S12) (e : Ev) (hf : Fit e.defs) (hd : e.data.length ≤ 1000000) :
    Con Try.prog 31 [.pt 0 0, evD e] (stH s) fun r H' => r = D.int (startL s e).1 ∧ (H' = stH (startL s e).2 ∨ H' = stM 1 (startL s e).2) := by
  obtain ⟨id, ver, time, closed, cancel, defs, nodes, tms, sgs⟩ := s
  suffices hh : ∀ Q : D → List Row → Prop, (∀ r H', r = D.int (startL ⟨id, ver, time, closed, cancel, defs, nodes, tms, sgs⟩ e).1 → (H' = stH (startL ⟨id, ver, time, closed, cancel, defs, nodes, tms, sgs⟩ e).2 ∨ H' = stM 1 (startL ⟨id, ver, time, closed, cancel, defs, nodes, tms, sgs⟩ e).2) → Q r H') → Con Try.prog 31 [.pt 0 0, evD e] (stH ⟨id, ver, time, closed, cancel, defs, nodes, tms, sgs⟩) Q from hh _ fun _ _ h1 h2 => ⟨h1, h2⟩
  intro Q hQ
  refine Con.walk good fn_st_start (by simp) ?_
  unfold s_st_start
  simp only [argsE, evD, stH, stL, rN, rT, rS]
  haveI : Kn (Fit e.defs) := ⟨hf⟩
  repeat' (first | (with_reducible first | refine Wa.h ?_ | refine We.h fun K hK => ?_ | refine Wd.h fun K M hK hM => ?_ | (refine hK _ _ _ _ ?_; clear hK K; try clear hM M) | (refine hM ?_; clear hM M; try clear hK K) | refine Ws.h ?_ | refine Wr.h ?_ | refine Wb.h fun K hK => ?_ | (refine hK _ ?_; clear hK K)) | ((with_reducible refine kQ ?_ ?_); kernel_rfl) | ((with_reducible refine k1 ?_ ?_); rfl) | ((with_reducible refine k0 ?_ ?_); rfl) | ((with_reducible apply kB) <;> first | rfl | intro h) | ((with_reducible refine kM ?_ ?_); rfl) | ((with_reducible refine wuT ?_ ?_); · assumption) | ((with_reducible refine wuF ?_ ?_); · assumption) | ((with_reducible refine wtT ?_ ?_); · assumption) | ((with_reducible refine wtF ?_ ?_); · assumption) | (with_reducible refine Wt.h (fun h => ?_) (fun h => ?_)) <;> try (exfalso; omega) | (with_reducible refine Wu.h (fun h => ?_) (fun h => ?_)) <;> try simp only [h] | (with_reducible refine Wn.h (fun h => ?_) ?_) <;> try (exfalso; omega) | ((fail_if_success with_reducible refine Wz.h ?_); simp (disch := omega) only [↓LD, LU, LS, LT, loadA_rf, seval, LSt]) | ((with_reducible refine And.intro ?_ ?_); omega) | ((fail_if_success with_reducible refine Wz.h ?_); simp only [D.int, D.bool]))
  · refine ⟨⟨fun d hd' => hf.2 d hd', by have := hf.1; omega, hd⟩, ?_⟩
    have hf1 := hf.1
    repeat' (first | (with_reducible first | refine Wa.h ?_ | refine We.h fun K hK => ?_ | refine Wd.h fun K M hK hM => ?_ | (refine hK _ _ _ _ ?_; clear hK K; try clear hM M) | (refine hM ?_; clear hM M; try clear hK K) | refine Ws.h ?_ | refine Wb.h fun K hK => ?_ | (refine hK _ ?_; clear hK K)) | ((with_reducible refine kQ ?_ ?_); kernel_rfl) | ((with_reducible refine k1 ?_ ?_); rfl) | ((with_reducible refine k0 ?_ ?_); rfl) | ((with_reducible apply kB) <;> first | rfl | intro h) | ((with_reducible refine kM ?_ ?_); rfl) | ((with_reducible refine wuT ?_ ?_); · assumption) | ((with_reducible refine wuF ?_ ?_); · assumption) | ((with_reducible refine wtT ?_ ?_); · assumption) | ((with_reducible refine wtF ?_ ?_); · assumption) | (with_reducible refine Wt.h (fun h => ?_) (fun h => ?_)) <;> try (exfalso; omega) | (with_reducible refine Wu.h (fun h => ?_) (fun h => ?_)) <;> try simp only [h] | (with_reducible refine Wn.h (fun h => ?_) ?_) <;> try (exfalso; omega) | ((fail_if_success with_reducible refine Wz.h ?_); simp (disch := omega) only [↓LD, LU, LS, LT, loadA_rf, seval, LSt, evD]) | ((with_reducible refine And.intro ?_ ?_); omega) | ((fail_if_success with_reducible refine Wz.h ?_); simp only [D.int, D.bool]))
    refine HS.view (View.wkd 5 ((List.replicate e.defs.length nd0).flatMap Nn.cs) rfl (by rw [List.length_map, List.length_range, len_fNn, List.length_replicate]) (mk_nn _)) ?_
    refine HS.view (View.shed 1 rfl) ?_
    repeat' (first | (with_reducible first | refine Wa.h ?_ | refine Ws.h ?_ | refine Wr.h ?_ | refine Wb.h fun K hK => ?_ | (refine hK _ ?_; clear hK K)) | ((with_reducible refine kQ ?_ ?_); kernel_rfl) | ((with_reducible refine k1 ?_ ?_); rfl) | ((with_reducible refine k0 ?_ ?_); rfl) | ((with_reducible apply kB) <;> first | rfl | intro h) | ((with_reducible refine kM ?_ ?_); rfl) | ((with_reducible refine wuT ?_ ?_); · assumption) | ((with_reducible refine wuF ?_ ?_); · assumption) | ((with_reducible refine wtT ?_ ?_); · assumption) | ((with_reducible refine wtF ?_ ?_); · assumption) | (with_reducible refine Wt.h (fun h => ?_) (fun h => ?_)) <;> try (exfalso; omega) | (with_reducible refine Wu.h (fun h => ?_) (fun h => ?_)) <;> try simp only [h] | (with_reducible refine Wn.h (fun h => ?_) ?_) <;> try (exfalso; omega) | ((fail_if_success with_reducible refine Wz.h ?_); simp (disch := omega) only [↓LD, LU, LS, LT, loadA_rf, seval]) | ((with_reducible refine And.intro ?_ ?_); omega) | ((fail_if_success with_reducible refine Wz.h ?_); simp only [D.int, D.bool]))
    have hb : startL ⟨id, ver, time, closed, cancel, defs, nodes, tms, sgs⟩ e = (0, ⟨id, ver, time, closed, cancel, e.defs, List.replicate e.defs.length nd0, tms, sgs⟩) := by
      unfold startL; rw [if_pos (by assumption)]
    rw [hb] at hQ
    have hrl : (List.replicate e.defs.length nd0).length = e.defs.length := by simp
    generalize List.replicate e.defs.length nd0 = ns at hQ hrl ⊢
    refine endG rfl rfl (ef := ⟨D.int 0, [(0, .box 28 (stL 4 2 3 ⟨id, ver, time, closed, cancel, e.defs, ns, tms, sgs⟩)), (1, .dead), (2, rT tms), (3, rS sgs)], [rN ns]⟩) ?_ (hQ _ _ rfl (.inr rfl))
    rw [stL, hrl]
    kernel_rfl
  · have hb : startL ⟨id, ver, time, closed, cancel, defs, nodes, tms, sgs⟩ e = (1, ⟨id, ver, time, closed, cancel, defs, nodes, tms, sgs⟩) := by
      unfold startL; rw [if_neg (by assumption)]
    rw [hb] at hQ
    exact end1 rfl rfl (by kernel_rfl) .f (hQ _ _ rfl (.inl rfl))
end Go.Proofs.Ytgbbpelfpagdoaa.Mir

/- A run's state: turn, apply. -/
namespace Go.Proofs.Ytgbbpelfpagdoaa.Mir
open Go Go.RowKit
set_option linter.unusedVariables false
set_option linter.unusedSimpArgs false
set_option maxHeartbeats 4000000

def turnL (s : S12) (e : Ev) : Int × S12 :=
  if e.ty = 1 then startL s e else if e.ty = 2 then beginL s e else if e.ty = 3 ∨ e.ty = 4 then endL s e else if e.ty = 5 then armL s e
  else if e.ty = 6 then fireL s e else if e.ty = 7 then signalL s e else if e.ty = 8 then cancelL s
  else if closingL s e.ty = true then (0, { s with closed := e.ty }) else (4, s)
def applyT (s : S12) (e : Ev) : Int × S12 :=
  if rightE e = false ∨ e.id ≠ s.id + 1 ∨ e.ver < s.ver ∨ e.time < s.time then (1, s)
  else if s.closed ≠ 0 then (12, s)
  else if decide (s.id = 0) ≠ decide (e.ty = 1) then (4, s)
  else ((turnL s e).1, { (turnL s e).2 with id := e.id, ver := e.ver, time := e.time })
def s0 : S12 := ⟨0, 0, 0, 0, false, [], [], [], []⟩
def applyL (s : S12) (e : Ev) : Int × S12 := if (applyT s e).1 = 0 then (0, (applyT s e).2) else ((applyT s e).1, s0)
/-- What a walk asks of a state. -/
structure FitA (s : S12) : Prop where
  fit : FitS s
  defs : Fit s.defs
  le : ∀ d ∈ s.defs, 0 ≤ d.le ∧ d.le ≤ 1048576
  tr : ∀ x ∈ s.nodes, 0 ≤ x.tr ∧ x.tr ≤ 1000000
/-- .. of an event that is right. -/
structure FitE (e : Ev) : Prop where
  time : 0 ≤ e.time ∧ e.time ≤ 1099511627776
  n : e.ty = 5 → 0 ≤ e.n ∧ e.n ≤ 1048576
  node : 0 ≤ e.node
  data : e.data.length ≤ 1000000
  defs : Fit e.defs
set_option maxRecDepth 100000 in
theorem c_st_turn (s : S12) (e : Ev) (hs : FitA s) (he : FitE e) :
    Con Try.prog 20 [.pt 0 0, evD e] (stH s) fun r H' => r = D.int (turnL s e).1 ∧ ∃ m, H' = stM m (turnL s e).2 := by
  obtain ⟨id, ver, time, closed, cancel, defs, nodes, tms, sgs⟩ := s
  suffices hh : ∀ Q : D → List Row → Prop, (∀ r H', r = D.int (turnL ⟨id, ver, time, closed, cancel, defs, nodes, tms, sgs⟩ e).1 → (∃ m, H' = stM m (turnL ⟨id, ver, time, closed, cancel, defs, nodes, tms, sgs⟩ e).2) → Q r H') → Con Try.prog 20 [.pt 0 0, evD e] (stH ⟨id, ver, time, closed, cancel, defs, nodes, tms, sgs⟩) Q from hh _ fun _ _ h1 h2 => ⟨h1, h2⟩
  intro Q hQ
  refine Con.walk good fn_st_turn (by simp) ?_
  unfold s_st_turn
  simp only [argsE, evD, stH, stL, rN, rT, rS]
  have hnl := hs.fit.nodes
  have htl := hs.fit.tms
  have hsl := hs.fit.sgs
  have hdl := hs.fit.defs.2
  repeat' (first | (with_reducible first | refine Wa.h ?_ | refine Ws.h ?_ | refine Wr.h ?_ | refine Wb.h fun K hK => ?_ | (refine hK _ ?_; clear hK K)) | ((with_reducible refine kQ ?_ ?_); kernel_rfl) | ((with_reducible refine k1 ?_ ?_); rfl) | ((with_reducible refine k0 ?_ ?_); rfl) | ((with_reducible apply kB) <;> first | rfl | intro h) | ((with_reducible refine kM ?_ ?_); rfl) | ((with_reducible refine wuT ?_ ?_); · assumption) | ((with_reducible refine wuF ?_ ?_); · assumption) | ((with_reducible refine wtT ?_ ?_); · assumption) | ((with_reducible refine wtF ?_ ?_); · assumption) | (with_reducible refine Wt.h (fun h => ?_) (fun h => ?_)) <;> try (exfalso; omega) | (with_reducible refine Wu.h (fun h => ?_) (fun h => ?_)) <;> try simp only [h] | (with_reducible refine Wn.h (fun h => ?_) ?_) <;> try (exfalso; omega) | ((fail_if_success with_reducible refine Wz.h ?_); simp (disch := omega) only [↓LD, LU, LS, LT, loadA_rf, seval, LSt]) | ((with_reducible refine And.intro ?_ ?_); omega) | ((fail_if_success with_reducible refine Wz.h ?_); simp only [D.int, D.bool]))
  · have hb : turnL ⟨id, ver, time, closed, cancel, defs, nodes, tms, sgs⟩ e = startL ⟨id, ver, time, closed, cancel, defs, nodes, tms, sgs⟩ e := by simp [turnL, *]
    rw [hb] at hQ
    refine callW_emb (c_st_start ⟨id, ver, time, closed, cancel, defs, nodes, tms, sgs⟩ e he.defs he.data) [0, 1, 2, 3] (by kernel_rfl) rfl rfl ?_
    rintro _ _ ⟨rfl, hH⟩
    generalize startL ⟨id, ver, time, closed, cancel, defs, nodes, tms, sgs⟩ e = p at hQ hH ⊢
    obtain ⟨v, s'⟩ := p
    dsimp only at hQ hH ⊢
    rcases hH with rfl | rfl
    · simp (disch := omega) only [↓LD, LU, LS, LT, loadA_rf, seval, ren, List.getElem?_nil, stM, stH, stL, rN, rT, rS]
      repeat' (first | (with_reducible first | refine Wa.h ?_ | refine Ws.h ?_ | refine Wr.h ?_ | refine Wb.h fun K hK => ?_ | (refine hK _ ?_; clear hK K)) | ((with_reducible refine kQ ?_ ?_); kernel_rfl) | ((with_reducible refine k1 ?_ ?_); rfl) | ((with_reducible refine k0 ?_ ?_); rfl) | ((with_reducible apply kB) <;> first | rfl | intro h) | ((with_reducible refine kM ?_ ?_); rfl) | ((with_reducible refine wuT ?_ ?_); · assumption) | ((with_reducible refine wuF ?_ ?_); · assumption) | ((with_reducible refine wtT ?_ ?_); · assumption) | ((with_reducible refine wtF ?_ ?_); · assumption) | (with_reducible refine Wt.h (fun h => ?_) (fun h => ?_)) <;> try (exfalso; omega) | (with_reducible refine Wu.h (fun h => ?_) (fun h => ?_)) <;> try simp only [h] | (with_reducible refine Wn.h (fun h => ?_) ?_) <;> try (exfalso; omega) | ((fail_if_success with_reducible refine Wz.h ?_); simp (disch := omega) only [↓LD, LU, LS, LT, loadA_rf, seval]) | ((with_reducible refine And.intro ?_ ?_); omega) | ((fail_if_success with_reducible refine Wz.h ?_); simp only [D.int, D.bool]))
      exact end1 rfl rfl (by kernel_rfl) .f (hQ _ _ rfl ⟨0, rfl⟩)
    · simp (disch := omega) only [↓LD, LU, LS, LT, loadA_rf, seval, ren, List.getElem?_nil, stM, stH, stL, rN, rT, rS]
      repeat' (first | (with_reducible first | refine Wa.h ?_ | refine Ws.h ?_ | refine Wr.h ?_ | refine Wb.h fun K hK => ?_ | (refine hK _ ?_; clear hK K)) | ((with_reducible refine kQ ?_ ?_); kernel_rfl) | ((with_reducible refine k1 ?_ ?_); rfl) | ((with_reducible refine k0 ?_ ?_); rfl) | ((with_reducible apply kB) <;> first | rfl | intro h) | ((with_reducible refine kM ?_ ?_); rfl) | ((with_reducible refine wuT ?_ ?_); · assumption) | ((with_reducible refine wuF ?_ ?_); · assumption) | ((with_reducible refine wtT ?_ ?_); · assumption) | ((with_reducible refine wtF ?_ ?_); · assumption) | (with_reducible refine Wt.h (fun h => ?_) (fun h => ?_)) <;> try (exfalso; omega) | (with_reducible refine Wu.h (fun h => ?_) (fun h => ?_)) <;> try simp only [h] | (with_reducible refine Wn.h (fun h => ?_) ?_) <;> try (exfalso; omega) | ((fail_if_success with_reducible refine Wz.h ?_); simp (disch := omega) only [↓LD, LU, LS, LT, loadA_rf, seval]) | ((with_reducible refine And.intro ?_ ?_); omega) | ((fail_if_success with_reducible refine Wz.h ?_); simp only [D.int, D.bool]))
      exact endG rfl rfl (ef := ⟨D.int v, [(0, .box 28 (stL 4 2 3 s')), (1, .dead), (2, rT s'.tms), (3, rS s'.sgs)], [rN s'.nodes]⟩) (by kernel_rfl) (hQ _ _ rfl ⟨1, rfl⟩)
  · have hb : turnL ⟨id, ver, time, closed, cancel, defs, nodes, tms, sgs⟩ e = beginL ⟨id, ver, time, closed, cancel, defs, nodes, tms, sgs⟩ e := by simp [turnL, *]
    rw [hb] at hQ
    refine callW_emb (c_st_begin ⟨id, ver, time, closed, cancel, defs, nodes, tms, sgs⟩ e (⟨he.time, hs.le, hs.tr⟩) he.node hs.defs hnl) [0, 1, 2, 3] (by kernel_rfl) rfl rfl ?_
    rintro _ _ ⟨rfl, hH⟩
    generalize beginL ⟨id, ver, time, closed, cancel, defs, nodes, tms, sgs⟩ e = p at hQ hH ⊢
    obtain ⟨v, s'⟩ := p
    dsimp only at hQ hH ⊢
    subst hH
    simp (disch := omega) only [↓LD, LU, LS, LT, loadA_rf, seval, ren, List.getElem?_nil, stM, stH, stL, rN, rT, rS]
    repeat' (first | (with_reducible first | refine Wa.h ?_ | refine Ws.h ?_ | refine Wr.h ?_ | refine Wb.h fun K hK => ?_ | (refine hK _ ?_; clear hK K)) | ((with_reducible refine kQ ?_ ?_); kernel_rfl) | ((with_reducible refine k1 ?_ ?_); rfl) | ((with_reducible refine k0 ?_ ?_); rfl) | ((with_reducible apply kB) <;> first | rfl | intro h) | ((with_reducible refine kM ?_ ?_); rfl) | ((with_reducible refine wuT ?_ ?_); · assumption) | ((with_reducible refine wuF ?_ ?_); · assumption) | ((with_reducible refine wtT ?_ ?_); · assumption) | ((with_reducible refine wtF ?_ ?_); · assumption) | (with_reducible refine Wt.h (fun h => ?_) (fun h => ?_)) <;> try (exfalso; omega) | (with_reducible refine Wu.h (fun h => ?_) (fun h => ?_)) <;> try simp only [h] | (with_reducible refine Wn.h (fun h => ?_) ?_) <;> try (exfalso; omega) | ((fail_if_success with_reducible refine Wz.h ?_); simp (disch := omega) only [↓LD, LU, LS, LT, loadA_rf, seval]) | ((with_reducible refine And.intro ?_ ?_); omega) | ((fail_if_success with_reducible refine Wz.h ?_); simp only [D.int, D.bool]))
    exact end1 rfl rfl (by kernel_rfl) .f (hQ _ _ rfl ⟨0, rfl⟩)
  · have hb : turnL ⟨id, ver, time, closed, cancel, defs, nodes, tms, sgs⟩ e = endL ⟨id, ver, time, closed, cancel, defs, nodes, tms, sgs⟩ e := by simp [turnL, *]
    rw [hb] at hQ
    refine callW_emb (c_st_end ⟨id, ver, time, closed, cancel, defs, nodes, tms, sgs⟩ e he.node hnl he.data hdl) [0, 1, 2, 3] (by kernel_rfl) rfl rfl ?_
    rintro _ _ ⟨rfl, hH⟩
    generalize endL ⟨id, ver, time, closed, cancel, defs, nodes, tms, sgs⟩ e = p at hQ hH ⊢
    obtain ⟨v, s'⟩ := p
    dsimp only at hQ hH ⊢
    subst hH
    simp (disch := omega) only [↓LD, LU, LS, LT, loadA_rf, seval, ren, List.getElem?_nil, stM, stH, stL, rN, rT, rS]
    repeat' (first | (with_reducible first | refine Wa.h ?_ | refine Ws.h ?_ | refine Wr.h ?_ | refine Wb.h fun K hK => ?_ | (refine hK _ ?_; clear hK K)) | ((with_reducible refine kQ ?_ ?_); kernel_rfl) | ((with_reducible refine k1 ?_ ?_); rfl) | ((with_reducible refine k0 ?_ ?_); rfl) | ((with_reducible apply kB) <;> first | rfl | intro h) | ((with_reducible refine kM ?_ ?_); rfl) | ((with_reducible refine wuT ?_ ?_); · assumption) | ((with_reducible refine wuF ?_ ?_); · assumption) | ((with_reducible refine wtT ?_ ?_); · assumption) | ((with_reducible refine wtF ?_ ?_); · assumption) | (with_reducible refine Wt.h (fun h => ?_) (fun h => ?_)) <;> try (exfalso; omega) | (with_reducible refine Wu.h (fun h => ?_) (fun h => ?_)) <;> try simp only [h] | (with_reducible refine Wn.h (fun h => ?_) ?_) <;> try (exfalso; omega) | ((fail_if_success with_reducible refine Wz.h ?_); simp (disch := omega) only [↓LD, LU, LS, LT, loadA_rf, seval]) | ((with_reducible refine And.intro ?_ ?_); omega) | ((fail_if_success with_reducible refine Wz.h ?_); simp only [D.int, D.bool]))
    exact end1 rfl rfl (by kernel_rfl) .f (hQ _ _ rfl ⟨0, rfl⟩)
  · have hb : turnL ⟨id, ver, time, closed, cancel, defs, nodes, tms, sgs⟩ e = endL ⟨id, ver, time, closed, cancel, defs, nodes, tms, sgs⟩ e := by simp [turnL, *]
    rw [hb] at hQ
    refine callW_emb (c_st_end ⟨id, ver, time, closed, cancel, defs, nodes, tms, sgs⟩ e he.node hnl he.data hdl) [0, 1, 2, 3] (by kernel_rfl) rfl rfl ?_
    rintro _ _ ⟨rfl, hH⟩
    generalize endL ⟨id, ver, time, closed, cancel, defs, nodes, tms, sgs⟩ e = p at hQ hH ⊢
    obtain ⟨v, s'⟩ := p
    dsimp only at hQ hH ⊢
    subst hH
    simp (disch := omega) only [↓LD, LU, LS, LT, loadA_rf, seval, ren, List.getElem?_nil, stM, stH, stL, rN, rT, rS]
    repeat' (first | (with_reducible first | refine Wa.h ?_ | refine Ws.h ?_ | refine Wr.h ?_ | refine Wb.h fun K hK => ?_ | (refine hK _ ?_; clear hK K)) | ((with_reducible refine kQ ?_ ?_); kernel_rfl) | ((with_reducible refine k1 ?_ ?_); rfl) | ((with_reducible refine k0 ?_ ?_); rfl) | ((with_reducible apply kB) <;> first | rfl | intro h) | ((with_reducible refine kM ?_ ?_); rfl) | ((with_reducible refine wuT ?_ ?_); · assumption) | ((with_reducible refine wuF ?_ ?_); · assumption) | ((with_reducible refine wtT ?_ ?_); · assumption) | ((with_reducible refine wtF ?_ ?_); · assumption) | (with_reducible refine Wt.h (fun h => ?_) (fun h => ?_)) <;> try (exfalso; omega) | (with_reducible refine Wu.h (fun h => ?_) (fun h => ?_)) <;> try simp only [h] | (with_reducible refine Wn.h (fun h => ?_) ?_) <;> try (exfalso; omega) | ((fail_if_success with_reducible refine Wz.h ?_); simp (disch := omega) only [↓LD, LU, LS, LT, loadA_rf, seval]) | ((with_reducible refine And.intro ?_ ?_); omega) | ((fail_if_success with_reducible refine Wz.h ?_); simp only [D.int, D.bool]))
    exact end1 rfl rfl (by kernel_rfl) .f (hQ _ _ rfl ⟨0, rfl⟩)
  · have hb : turnL ⟨id, ver, time, closed, cancel, defs, nodes, tms, sgs⟩ e = armL ⟨id, ver, time, closed, cancel, defs, nodes, tms, sgs⟩ e := by simp [turnL, *]
    rw [hb] at hQ
    refine callW_emb (c_st_arm ⟨id, ver, time, closed, cancel, defs, nodes, tms, sgs⟩ e htl he.time (he.n h)) [0, 1, 2, 3] (by kernel_rfl) rfl rfl ?_
    rintro _ _ ⟨rfl, hH⟩
    generalize armL ⟨id, ver, time, closed, cancel, defs, nodes, tms, sgs⟩ e = p at hQ hH ⊢
    obtain ⟨v, s'⟩ := p
    dsimp only at hQ hH ⊢
    rcases hH with rfl | rfl
    · simp (disch := omega) only [↓LD, LU, LS, LT, loadA_rf, seval, ren, List.getElem?_nil, stM, stH, stL, rN, rT, rS]
      repeat' (first | (with_reducible first | refine Wa.h ?_ | refine Ws.h ?_ | refine Wr.h ?_ | refine Wb.h fun K hK => ?_ | (refine hK _ ?_; clear hK K)) | ((with_reducible refine kQ ?_ ?_); kernel_rfl) | ((with_reducible refine k1 ?_ ?_); rfl) | ((with_reducible refine k0 ?_ ?_); rfl) | ((with_reducible apply kB) <;> first | rfl | intro h) | ((with_reducible refine kM ?_ ?_); rfl) | ((with_reducible refine wuT ?_ ?_); · assumption) | ((with_reducible refine wuF ?_ ?_); · assumption) | ((with_reducible refine wtT ?_ ?_); · assumption) | ((with_reducible refine wtF ?_ ?_); · assumption) | (with_reducible refine Wt.h (fun h => ?_) (fun h => ?_)) <;> try (exfalso; omega) | (with_reducible refine Wu.h (fun h => ?_) (fun h => ?_)) <;> try simp only [h] | (with_reducible refine Wn.h (fun h => ?_) ?_) <;> try (exfalso; omega) | ((fail_if_success with_reducible refine Wz.h ?_); simp (disch := omega) only [↓LD, LU, LS, LT, loadA_rf, seval]) | ((with_reducible refine And.intro ?_ ?_); omega) | ((fail_if_success with_reducible refine Wz.h ?_); simp only [D.int, D.bool]))
      exact end1 rfl rfl (by kernel_rfl) .f (hQ _ _ rfl ⟨0, rfl⟩)
    · simp (disch := omega) only [↓LD, LU, LS, LT, loadA_rf, seval, ren, List.getElem?_nil, stM, stH, stL, rN, rT, rS]
      repeat' (first | (with_reducible first | refine Wa.h ?_ | refine Ws.h ?_ | refine Wr.h ?_ | refine Wb.h fun K hK => ?_ | (refine hK _ ?_; clear hK K)) | ((with_reducible refine kQ ?_ ?_); kernel_rfl) | ((with_reducible refine k1 ?_ ?_); rfl) | ((with_reducible refine k0 ?_ ?_); rfl) | ((with_reducible apply kB) <;> first | rfl | intro h) | ((with_reducible refine kM ?_ ?_); rfl) | ((with_reducible refine wuT ?_ ?_); · assumption) | ((with_reducible refine wuF ?_ ?_); · assumption) | ((with_reducible refine wtT ?_ ?_); · assumption) | ((with_reducible refine wtF ?_ ?_); · assumption) | (with_reducible refine Wt.h (fun h => ?_) (fun h => ?_)) <;> try (exfalso; omega) | (with_reducible refine Wu.h (fun h => ?_) (fun h => ?_)) <;> try simp only [h] | (with_reducible refine Wn.h (fun h => ?_) ?_) <;> try (exfalso; omega) | ((fail_if_success with_reducible refine Wz.h ?_); simp (disch := omega) only [↓LD, LU, LS, LT, loadA_rf, seval]) | ((with_reducible refine And.intro ?_ ?_); omega) | ((fail_if_success with_reducible refine Wz.h ?_); simp only [D.int, D.bool]))
      exact endG rfl rfl (ef := ⟨D.int v, [(0, .box 28 (stL 1 4 3 s')), (1, rN s'.nodes), (2, .dead), (3, rS s'.sgs)], [rT s'.tms]⟩) (by kernel_rfl) (hQ _ _ rfl ⟨2, rfl⟩)
  · have hb : turnL ⟨id, ver, time, closed, cancel, defs, nodes, tms, sgs⟩ e = fireL ⟨id, ver, time, closed, cancel, defs, nodes, tms, sgs⟩ e := by simp [turnL, *]
    rw [hb] at hQ
    refine callW_emb (c_st_fire ⟨id, ver, time, closed, cancel, defs, nodes, tms, sgs⟩ e htl) [0, 1, 2, 3] (by kernel_rfl) rfl rfl ?_
    rintro _ _ ⟨rfl, hH⟩
    generalize fireL ⟨id, ver, time, closed, cancel, defs, nodes, tms, sgs⟩ e = p at hQ hH ⊢
    obtain ⟨v, s'⟩ := p
    dsimp only at hQ hH ⊢
    subst hH
    simp (disch := omega) only [↓LD, LU, LS, LT, loadA_rf, seval, ren, List.getElem?_nil, stM, stH, stL, rN, rT, rS]
    repeat' (first | (with_reducible first | refine Wa.h ?_ | refine Ws.h ?_ | refine Wr.h ?_ | refine Wb.h fun K hK => ?_ | (refine hK _ ?_; clear hK K)) | ((with_reducible refine kQ ?_ ?_); kernel_rfl) | ((with_reducible refine k1 ?_ ?_); rfl) | ((with_reducible refine k0 ?_ ?_); rfl) | ((with_reducible apply kB) <;> first | rfl | intro h) | ((with_reducible refine kM ?_ ?_); rfl) | ((with_reducible refine wuT ?_ ?_); · assumption) | ((with_reducible refine wuF ?_ ?_); · assumption) | ((with_reducible refine wtT ?_ ?_); · assumption) | ((with_reducible refine wtF ?_ ?_); · assumption) | (with_reducible refine Wt.h (fun h => ?_) (fun h => ?_)) <;> try (exfalso; omega) | (with_reducible refine Wu.h (fun h => ?_) (fun h => ?_)) <;> try simp only [h] | (with_reducible refine Wn.h (fun h => ?_) ?_) <;> try (exfalso; omega) | ((fail_if_success with_reducible refine Wz.h ?_); simp (disch := omega) only [↓LD, LU, LS, LT, loadA_rf, seval]) | ((with_reducible refine And.intro ?_ ?_); omega) | ((fail_if_success with_reducible refine Wz.h ?_); simp only [D.int, D.bool]))
    exact end1 rfl rfl (by kernel_rfl) .f (hQ _ _ rfl ⟨0, rfl⟩)
  · have hb : turnL ⟨id, ver, time, closed, cancel, defs, nodes, tms, sgs⟩ e = signalL ⟨id, ver, time, closed, cancel, defs, nodes, tms, sgs⟩ e := by simp [turnL, *]
    rw [hb] at hQ
    refine callW_emb (c_st_signal ⟨id, ver, time, closed, cancel, defs, nodes, tms, sgs⟩ e hsl he.data) [0, 1, 2, 3] (by kernel_rfl) rfl rfl ?_
    rintro _ _ ⟨rfl, hH⟩
    generalize signalL ⟨id, ver, time, closed, cancel, defs, nodes, tms, sgs⟩ e = p at hQ hH ⊢
    obtain ⟨v, s'⟩ := p
    dsimp only at hQ hH ⊢
    rcases hH with rfl | rfl
    · simp (disch := omega) only [↓LD, LU, LS, LT, loadA_rf, seval, ren, List.getElem?_nil, stM, stH, stL, rN, rT, rS]
      repeat' (first | (with_reducible first | refine Wa.h ?_ | refine Ws.h ?_ | refine Wr.h ?_ | refine Wb.h fun K hK => ?_ | (refine hK _ ?_; clear hK K)) | ((with_reducible refine kQ ?_ ?_); kernel_rfl) | ((with_reducible refine k1 ?_ ?_); rfl) | ((with_reducible refine k0 ?_ ?_); rfl) | ((with_reducible apply kB) <;> first | rfl | intro h) | ((with_reducible refine kM ?_ ?_); rfl) | ((with_reducible refine wuT ?_ ?_); · assumption) | ((with_reducible refine wuF ?_ ?_); · assumption) | ((with_reducible refine wtT ?_ ?_); · assumption) | ((with_reducible refine wtF ?_ ?_); · assumption) | (with_reducible refine Wt.h (fun h => ?_) (fun h => ?_)) <;> try (exfalso; omega) | (with_reducible refine Wu.h (fun h => ?_) (fun h => ?_)) <;> try simp only [h] | (with_reducible refine Wn.h (fun h => ?_) ?_) <;> try (exfalso; omega) | ((fail_if_success with_reducible refine Wz.h ?_); simp (disch := omega) only [↓LD, LU, LS, LT, loadA_rf, seval]) | ((with_reducible refine And.intro ?_ ?_); omega) | ((fail_if_success with_reducible refine Wz.h ?_); simp only [D.int, D.bool]))
      exact end1 rfl rfl (by kernel_rfl) .f (hQ _ _ rfl ⟨0, rfl⟩)
    · simp (disch := omega) only [↓LD, LU, LS, LT, loadA_rf, seval, ren, List.getElem?_nil, stM, stH, stL, rN, rT, rS]
      repeat' (first | (with_reducible first | refine Wa.h ?_ | refine Ws.h ?_ | refine Wr.h ?_ | refine Wb.h fun K hK => ?_ | (refine hK _ ?_; clear hK K)) | ((with_reducible refine kQ ?_ ?_); kernel_rfl) | ((with_reducible refine k1 ?_ ?_); rfl) | ((with_reducible refine k0 ?_ ?_); rfl) | ((with_reducible apply kB) <;> first | rfl | intro h) | ((with_reducible refine kM ?_ ?_); rfl) | ((with_reducible refine wuT ?_ ?_); · assumption) | ((with_reducible refine wuF ?_ ?_); · assumption) | ((with_reducible refine wtT ?_ ?_); · assumption) | ((with_reducible refine wtF ?_ ?_); · assumption) | (with_reducible refine Wt.h (fun h => ?_) (fun h => ?_)) <;> try (exfalso; omega) | (with_reducible refine Wu.h (fun h => ?_) (fun h => ?_)) <;> try simp only [h] | (with_reducible refine Wn.h (fun h => ?_) ?_) <;> try (exfalso; omega) | ((fail_if_success with_reducible refine Wz.h ?_); simp (disch := omega) only [↓LD, LU, LS, LT, loadA_rf, seval]) | ((with_reducible refine And.intro ?_ ?_); omega) | ((fail_if_success with_reducible refine Wz.h ?_); simp only [D.int, D.bool]))
      exact endG rfl rfl (ef := ⟨D.int v, [(0, .box 28 (stL 1 2 4 s')), (1, rN s'.nodes), (2, rT s'.tms), (3, .dead)], [rS s'.sgs]⟩) (by kernel_rfl) (hQ _ _ rfl ⟨3, rfl⟩)
  · have hb : turnL ⟨id, ver, time, closed, cancel, defs, nodes, tms, sgs⟩ e = cancelL ⟨id, ver, time, closed, cancel, defs, nodes, tms, sgs⟩ := by simp [turnL, *]
    rw [hb] at hQ
    refine callW_emb (c_st_cancel ⟨id, ver, time, closed, cancel, defs, nodes, tms, sgs⟩) [0, 1, 2, 3] (by kernel_rfl) rfl rfl ?_
    rintro _ _ ⟨rfl, hH⟩
    generalize cancelL ⟨id, ver, time, closed, cancel, defs, nodes, tms, sgs⟩ = p at hQ hH ⊢
    obtain ⟨v, s'⟩ := p
    dsimp only at hQ hH ⊢
    subst hH
    simp (disch := omega) only [↓LD, LU, LS, LT, loadA_rf, seval, ren, List.getElem?_nil, stM, stH, stL, rN, rT, rS]
    repeat' (first | (with_reducible first | refine Wa.h ?_ | refine Ws.h ?_ | refine Wr.h ?_ | refine Wb.h fun K hK => ?_ | (refine hK _ ?_; clear hK K)) | ((with_reducible refine kQ ?_ ?_); kernel_rfl) | ((with_reducible refine k1 ?_ ?_); rfl) | ((with_reducible refine k0 ?_ ?_); rfl) | ((with_reducible apply kB) <;> first | rfl | intro h) | ((with_reducible refine kM ?_ ?_); rfl) | ((with_reducible refine wuT ?_ ?_); · assumption) | ((with_reducible refine wuF ?_ ?_); · assumption) | ((with_reducible refine wtT ?_ ?_); · assumption) | ((with_reducible refine wtF ?_ ?_); · assumption) | (with_reducible refine Wt.h (fun h => ?_) (fun h => ?_)) <;> try (exfalso; omega) | (with_reducible refine Wu.h (fun h => ?_) (fun h => ?_)) <;> try simp only [h] | (with_reducible refine Wn.h (fun h => ?_) ?_) <;> try (exfalso; omega) | ((fail_if_success with_reducible refine Wz.h ?_); simp (disch := omega) only [↓LD, LU, LS, LT, loadA_rf, seval]) | ((with_reducible refine And.intro ?_ ?_); omega) | ((fail_if_success with_reducible refine Wz.h ?_); simp only [D.int, D.bool]))
    exact end1 rfl rfl (by kernel_rfl) .f (hQ _ _ rfl ⟨0, rfl⟩)
  refine callW_emb (c_st_closing ⟨id, ver, time, closed, cancel, defs, nodes, tms, sgs⟩ e.ty hnl) [0, 1, 2, 3] (by kernel_rfl) rfl rfl ?_
  rintro _ _ ⟨rfl, rfl⟩
  simp (disch := omega) only [↓LD, LU, LS, LT, loadA_rf, seval, ren, List.getElem?_nil, stM, stH, stL, rN, rT, rS]
  repeat' (first | (with_reducible first | refine Wa.h ?_ | refine Ws.h ?_ | refine Wr.h ?_ | refine Wb.h fun K hK => ?_ | (refine hK _ ?_; clear hK K)) | ((with_reducible refine kQ ?_ ?_); kernel_rfl) | ((with_reducible refine k1 ?_ ?_); rfl) | ((with_reducible refine k0 ?_ ?_); rfl) | ((with_reducible apply kB) <;> first | rfl | intro h) | ((with_reducible refine kM ?_ ?_); rfl) | ((with_reducible refine wuT ?_ ?_); · assumption) | ((with_reducible refine wuF ?_ ?_); · assumption) | ((with_reducible refine wtT ?_ ?_); · assumption) | ((with_reducible refine wtF ?_ ?_); · assumption) | (with_reducible refine Wt.h (fun h => ?_) (fun h => ?_)) <;> try (exfalso; omega) | (with_reducible refine Wu.h (fun h => ?_) (fun h => ?_)) <;> try simp only [h] | (with_reducible refine Wn.h (fun h => ?_) ?_) <;> try (exfalso; omega) | ((fail_if_success with_reducible refine Wz.h ?_); simp (disch := omega) only [↓LD, LU, LS, LT, loadA_rf, seval, Bool.not_eq_true']) | ((with_reducible refine And.intro ?_ ?_); omega) | ((fail_if_success with_reducible refine Wz.h ?_); simp only [D.int, D.bool]))
  · have hc : closingL ⟨id, ver, time, closed, cancel, defs, nodes, tms, sgs⟩ e.ty = false := by simpa using h
    have hb : turnL ⟨id, ver, time, closed, cancel, defs, nodes, tms, sgs⟩ e = (4, ⟨id, ver, time, closed, cancel, defs, nodes, tms, sgs⟩) := by simp [turnL, *]
    rw [hb] at hQ
    exact end1 rfl rfl (by kernel_rfl) .f (hQ _ _ rfl ⟨0, rfl⟩)
  · have hc : closingL ⟨id, ver, time, closed, cancel, defs, nodes, tms, sgs⟩ e.ty = true := by simp_all
    have hb : turnL ⟨id, ver, time, closed, cancel, defs, nodes, tms, sgs⟩ e = (0, ⟨id, ver, time, e.ty, cancel, defs, nodes, tms, sgs⟩) := by simp [turnL, *]
    rw [hb] at hQ
    exact end1 rfl rfl (by kernel_rfl) .f (hQ _ _ rfl ⟨0, rfl⟩)
theorem fitE {e : Ev} (h : rightE e = true) (hd : e.data.length ≤ 1000000) (hf : Fit e.defs) : FitE e := by
  unfold rightE at h
  simp only [Bool.and_eq_true] at h
  obtain ⟨⟨⟨⟨⟨⟨h1, h2⟩, h3⟩, h4⟩, h5⟩, h6⟩, h7⟩ := h
  simp only [inI, Bool.and_eq_true, decide_eq_true_eq] at h4
  simp only [numB, Bool.and_eq_true] at h5
  obtain ⟨⟨⟨g1, g2⟩, g3⟩, g4⟩ := h5
  simp only [inI, Bool.and_eq_true, decide_eq_true_eq] at g3
  refine ⟨h4, fun e5 => ?_, g3.1, hd, hf⟩
  rw [e5] at g4
  simp [pN, pNode, inI] at g4
  omega
/-- A test that is known. -/
class Vb (x : Bool) (b : outParam Bool) : Prop where h : x = b
instance {e : Ev} {b : Bool} {H : List Row} {K : D → List Row → Prop} [hb : Vb (rightE e) b] [hf : Small e.defs] : Wa (callW Try.prog (.fn 19 []) [.ag [.f (.v (.int .i64 e.id)), .f (.v (.int .i64 e.ver)), .f (.v (.int .i64 e.time)), .f (.v (.int .i64 e.ty)), .f (.v (.int .i64 e.node)), .f (.v (.int .i64 e.n)), .f (.v (.string (BB e.name))), .f (fY e.data), .f (fG e.defs)]] H K)
    (K (.f (.v (.bool b))) H) := ⟨fun h => by rw [← hb.h] at h; exact callW_pure (c_ev_Right e hf.h.1 hf.h.2) rfl rfl rfl h⟩
instance {e : Ev} {b : Bool} {H : List Row} {K : Bool → D → List Row → Prop} [hb : Vb (rightE e) b] [hf : Small e.defs] : Wa (callDr Try.prog (.fn 19 []) [.ag [.f (.v (.int .i64 e.id)), .f (.v (.int .i64 e.ver)), .f (.v (.int .i64 e.time)), .f (.v (.int .i64 e.ty)), .f (.v (.int .i64 e.node)), .f (.v (.int .i64 e.n)), .f (.v (.string (BB e.name))), .f (fY e.data), .f (fG e.defs)]] H K)
    (K true (.f (.v (.bool b))) H) := ⟨fun h => by rw [← hb.h] at h; exact callDr_pure (c_ev_Right e hf.h.1 hf.h.2) rfl rfl rfl h⟩
set_option maxRecDepth 100000 in
/-- .. in place: of a wrong one the rows alone are told. -/
theorem c_st_apply (s : S12) (e : Ev) (hs : FitA s) (hd : e.data.length ≤ 1000000) (hf : Fit e.defs) (hi : 0 ≤ s.id ∧ s.id < 1000000000) :
    Con Try.prog 10 [.pt 0 0, evD e] (stH s) fun r H' => r = D.int (applyT s e).1 ∧ ∃ m, H' = stM m (applyT s e).2 := by
  obtain ⟨id, ver, time, closed, cancel, defs, nodes, tms, sgs⟩ := s
  suffices hh : ∀ Q : D → List Row → Prop, (∀ r H', r = D.int (applyT ⟨id, ver, time, closed, cancel, defs, nodes, tms, sgs⟩ e).1 → (∃ m, H' = stM m (applyT ⟨id, ver, time, closed, cancel, defs, nodes, tms, sgs⟩ e).2) → Q r H') → Con Try.prog 10 [.pt 0 0, evD e] (stH ⟨id, ver, time, closed, cancel, defs, nodes, tms, sgs⟩) Q from hh _ fun _ _ h1 h2 => ⟨h1, h2⟩
  intro Q hQ
  haveI : Small e.defs := ⟨⟨fun d hd => hf.2 d hd, by have := hf.1; omega⟩⟩
  refine Con.walk good fn_st_apply (by simp) ?_
  unfold s_st_apply
  simp only [argsE, evD, stH, stL, rN, rT, rS]
  obtain ⟨hi1, hi2⟩ := hi
  dsimp only at hi1 hi2
  cases hre : rightE e
  all_goals
    haveI : Vb (rightE e) _ := ⟨hre⟩
    repeat' (first | (with_reducible first | refine Wa.h ?_ | refine We.h fun K hK => ?_ | refine Wd.h fun K M hK hM => ?_ | (refine hK _ _ _ _ ?_; clear hK K; try clear hM M) | (refine hM ?_; clear hM M; try clear hK K) | refine Ws.h ?_ | refine Wr.h ?_ | refine Wb.h fun K hK => ?_ | (refine hK _ ?_; clear hK K)) | ((with_reducible refine kQ ?_ ?_); kernel_rfl) | ((with_reducible refine k1 ?_ ?_); rfl) | ((with_reducible refine k0 ?_ ?_); rfl) | ((with_reducible apply kB) <;> first | rfl | intro h) | ((with_reducible refine kM ?_ ?_); rfl) | ((with_reducible refine wuT ?_ ?_); · assumption) | ((with_reducible refine wuF ?_ ?_); · assumption) | ((with_reducible refine wtT ?_ ?_); · assumption) | ((with_reducible refine wtF ?_ ?_); · assumption) | (with_reducible refine Wt.h (fun h => ?_) (fun h => ?_)) <;> try (exfalso; omega) | (with_reducible refine Wu.h (fun h => ?_) (fun h => ?_)) <;> try simp only [h] | (with_reducible refine Wn.h (fun h => ?_) ?_) <;> try (exfalso; omega) | ((fail_if_success with_reducible refine Wz.h ?_); simp (disch := omega) only [↓LD, LU, LS, LT, loadA_rf, seval, LSt]) | ((with_reducible refine And.intro ?_ ?_); omega) | ((fail_if_success with_reducible refine Wz.h ?_); simp only [D.int, D.bool]))
  all_goals first
    | (have hb : applyT ⟨id, ver, time, closed, cancel, defs, nodes, tms, sgs⟩ e = (1, ⟨id, ver, time, closed, cancel, defs, nodes, tms, sgs⟩) := by (unfold applyT; rw [if_pos (by simp_all)])
       rw [hb] at hQ
       exact end1 rfl rfl (by kernel_rfl) .f (hQ _ _ rfl ⟨0, rfl⟩))
    | (have hb : applyT ⟨id, ver, time, closed, cancel, defs, nodes, tms, sgs⟩ e = (12, ⟨id, ver, time, closed, cancel, defs, nodes, tms, sgs⟩) := by (unfold applyT; rw [if_neg (by simp_all), if_pos (by assumption)])
       rw [hb] at hQ
       exact end1 rfl rfl (by kernel_rfl) .f (hQ _ _ rfl ⟨0, rfl⟩))
    | (have hb : applyT ⟨id, ver, time, closed, cancel, defs, nodes, tms, sgs⟩ e = (4, ⟨id, ver, time, closed, cancel, defs, nodes, tms, sgs⟩) := by (unfold applyT; rw [if_neg (by simp_all), if_neg (by simp_all), if_pos (by simp_all)])
       rw [hb] at hQ
       exact end1 rfl rfl (by kernel_rfl) .f (hQ _ _ rfl ⟨0, rfl⟩))
    | skip
  all_goals
    have hb : applyT ⟨id, ver, time, closed, cancel, defs, nodes, tms, sgs⟩ e = ((turnL ⟨id, ver, time, closed, cancel, defs, nodes, tms, sgs⟩ e).1, { (turnL ⟨id, ver, time, closed, cancel, defs, nodes, tms, sgs⟩ e).2 with id := e.id, ver := e.ver, time := e.time }) := by
      unfold applyT; rw [if_neg (by simp_all), if_neg (by simp_all), if_neg (by simp_all)]
    rw [hb] at hQ
    refine callW_emb (c_st_turn ⟨id, ver, time, closed, cancel, defs, nodes, tms, sgs⟩ e hs (fitE hre hd hf)) [0, 1, 2, 3] (by kernel_rfl) rfl rfl ?_
    rintro _ _ ⟨rfl, m, rfl⟩
    generalize turnL ⟨id, ver, time, closed, cancel, defs, nodes, tms, sgs⟩ e = p at hQ ⊢
    obtain ⟨v, s'⟩ := p
    dsimp only at hQ ⊢
    rcases m with _ | _ | _ | m
    · simp (disch := omega) only [↓LD, LU, LS, LT, loadA_rf, seval, ren, List.getElem?_nil, stM, stH, stL, rN, rT, rS]
      repeat' (first | (with_reducible first | refine Wa.h ?_ | refine We.h fun K hK => ?_ | refine Wd.h fun K M hK hM => ?_ | (refine hK _ _ _ _ ?_; clear hK K; try clear hM M) | (refine hM ?_; clear hM M; try clear hK K) | refine Ws.h ?_ | refine Wr.h ?_ | refine Wb.h fun K hK => ?_ | (refine hK _ ?_; clear hK K)) | ((with_reducible refine kQ ?_ ?_); kernel_rfl) | ((with_reducible refine k1 ?_ ?_); rfl) | ((with_reducible refine k0 ?_ ?_); rfl) | ((with_reducible apply kB) <;> first | rfl | intro h) | ((with_reducible refine kM ?_ ?_); rfl) | ((with_reducible refine wuT ?_ ?_); · assumption) | ((with_reducible refine wuF ?_ ?_); · assumption) | ((with_reducible refine wtT ?_ ?_); · assumption) | ((with_reducible refine wtF ?_ ?_); · assumption) | (with_reducible refine Wt.h (fun h => ?_) (fun h => ?_)) <;> try (exfalso; omega) | (with_reducible refine Wu.h (fun h => ?_) (fun h => ?_)) <;> try simp only [h] | (with_reducible refine Wn.h (fun h => ?_) ?_) <;> try (exfalso; omega) | ((fail_if_success with_reducible refine Wz.h ?_); simp (disch := omega) only [↓LD, LU, LS, LT, loadA_rf, seval]) | ((with_reducible refine And.intro ?_ ?_); omega) | ((fail_if_success with_reducible refine Wz.h ?_); simp only [D.int, D.bool]))
      exact end1 rfl rfl (by kernel_rfl) .f (hQ _ _ rfl ⟨0, rfl⟩)
    · simp (disch := omega) only [↓LD, LU, LS, LT, loadA_rf, seval, ren, List.getElem?_nil, stM, stH, stL, rN, rT, rS]
      repeat' (first | (with_reducible first | refine Wa.h ?_ | refine We.h fun K hK => ?_ | refine Wd.h fun K M hK hM => ?_ | (refine hK _ _ _ _ ?_; clear hK K; try clear hM M) | (refine hM ?_; clear hM M; try clear hK K) | refine Ws.h ?_ | refine Wr.h ?_ | refine Wb.h fun K hK => ?_ | (refine hK _ ?_; clear hK K)) | ((with_reducible refine kQ ?_ ?_); kernel_rfl) | ((with_reducible refine k1 ?_ ?_); rfl) | ((with_reducible refine k0 ?_ ?_); rfl) | ((with_reducible apply kB) <;> first | rfl | intro h) | ((with_reducible refine kM ?_ ?_); rfl) | ((with_reducible refine wuT ?_ ?_); · assumption) | ((with_reducible refine wuF ?_ ?_); · assumption) | ((with_reducible refine wtT ?_ ?_); · assumption) | ((with_reducible refine wtF ?_ ?_); · assumption) | (with_reducible refine Wt.h (fun h => ?_) (fun h => ?_)) <;> try (exfalso; omega) | (with_reducible refine Wu.h (fun h => ?_) (fun h => ?_)) <;> try simp only [h] | (with_reducible refine Wn.h (fun h => ?_) ?_) <;> try (exfalso; omega) | ((fail_if_success with_reducible refine Wz.h ?_); simp (disch := omega) only [↓LD, LU, LS, LT, loadA_rf, seval]) | ((with_reducible refine And.intro ?_ ?_); omega) | ((fail_if_success with_reducible refine Wz.h ?_); simp only [D.int, D.bool]))
      exact endG rfl rfl (ef := ⟨D.int v, [(0, .box 28 (stL 4 2 3 ⟨e.id, e.ver, e.time, s'.closed, s'.cancel, s'.defs, s'.nodes, s'.tms, s'.sgs⟩)), (1, .dead), (2, rT s'.tms), (3, rS s'.sgs)], [rN s'.nodes]⟩) (by kernel_rfl) (hQ _ _ rfl ⟨1, rfl⟩)
    · simp (disch := omega) only [↓LD, LU, LS, LT, loadA_rf, seval, ren, List.getElem?_nil, stM, stH, stL, rN, rT, rS]
      repeat' (first | (with_reducible first | refine Wa.h ?_ | refine We.h fun K hK => ?_ | refine Wd.h fun K M hK hM => ?_ | (refine hK _ _ _ _ ?_; clear hK K; try clear hM M) | (refine hM ?_; clear hM M; try clear hK K) | refine Ws.h ?_ | refine Wr.h ?_ | refine Wb.h fun K hK => ?_ | (refine hK _ ?_; clear hK K)) | ((with_reducible refine kQ ?_ ?_); kernel_rfl) | ((with_reducible refine k1 ?_ ?_); rfl) | ((with_reducible refine k0 ?_ ?_); rfl) | ((with_reducible apply kB) <;> first | rfl | intro h) | ((with_reducible refine kM ?_ ?_); rfl) | ((with_reducible refine wuT ?_ ?_); · assumption) | ((with_reducible refine wuF ?_ ?_); · assumption) | ((with_reducible refine wtT ?_ ?_); · assumption) | ((with_reducible refine wtF ?_ ?_); · assumption) | (with_reducible refine Wt.h (fun h => ?_) (fun h => ?_)) <;> try (exfalso; omega) | (with_reducible refine Wu.h (fun h => ?_) (fun h => ?_)) <;> try simp only [h] | (with_reducible refine Wn.h (fun h => ?_) ?_) <;> try (exfalso; omega) | ((fail_if_success with_reducible refine Wz.h ?_); simp (disch := omega) only [↓LD, LU, LS, LT, loadA_rf, seval]) | ((with_reducible refine And.intro ?_ ?_); omega) | ((fail_if_success with_reducible refine Wz.h ?_); simp only [D.int, D.bool]))
      exact endG rfl rfl (ef := ⟨D.int v, [(0, .box 28 (stL 1 4 3 ⟨e.id, e.ver, e.time, s'.closed, s'.cancel, s'.defs, s'.nodes, s'.tms, s'.sgs⟩)), (1, rN s'.nodes), (2, .dead), (3, rS s'.sgs)], [rT s'.tms]⟩) (by kernel_rfl) (hQ _ _ rfl ⟨2, rfl⟩)
    · simp (disch := omega) only [↓LD, LU, LS, LT, loadA_rf, seval, ren, List.getElem?_nil, stM, stH, stL, rN, rT, rS]
      repeat' (first | (with_reducible first | refine Wa.h ?_ | refine We.h fun K hK => ?_ | refine Wd.h fun K M hK hM => ?_ | (refine hK _ _ _ _ ?_; clear hK K; try clear hM M) | (refine hM ?_; clear hM M; try clear hK K) | refine Ws.h ?_ | refine Wr.h ?_ | refine Wb.h fun K hK => ?_ | (refine hK _ ?_; clear hK K)) | ((with_reducible refine kQ ?_ ?_); kernel_rfl) | ((with_reducible refine k1 ?_ ?_); rfl) | ((with_reducible refine k0 ?_ ?_); rfl) | ((with_reducible apply kB) <;> first | rfl | intro h) | ((with_reducible refine kM ?_ ?_); rfl) | ((with_reducible refine wuT ?_ ?_); · assumption) | ((with_reducible refine wuF ?_ ?_); · assumption) | ((with_reducible refine wtT ?_ ?_); · assumption) | ((with_reducible refine wtF ?_ ?_); · assumption) | (with_reducible refine Wt.h (fun h => ?_) (fun h => ?_)) <;> try (exfalso; omega) | (with_reducible refine Wu.h (fun h => ?_) (fun h => ?_)) <;> try simp only [h] | (with_reducible refine Wn.h (fun h => ?_) ?_) <;> try (exfalso; omega) | ((fail_if_success with_reducible refine Wz.h ?_); simp (disch := omega) only [↓LD, LU, LS, LT, loadA_rf, seval]) | ((with_reducible refine And.intro ?_ ?_); omega) | ((fail_if_success with_reducible refine Wz.h ?_); simp only [D.int, D.bool]))
      exact endG rfl rfl (ef := ⟨D.int v, [(0, .box 28 (stL 1 2 4 ⟨e.id, e.ver, e.time, s'.closed, s'.cancel, s'.defs, s'.nodes, s'.tms, s'.sgs⟩)), (1, rN s'.nodes), (2, rT s'.tms), (3, .dead)], [rS s'.sgs]⟩) (by kernel_rfl) (hQ _ _ rfl ⟨3, rfl⟩)
end Go.Proofs.Ytgbbpelfpagdoaa.Mir

/- A run's state: Apply, Fold, Ending. -/
namespace Go.Proofs.Ytgbbpelfpagdoaa.Mir
open Go Go.RowKit
set_option linter.unusedVariables false
set_option linter.unusedSimpArgs false
set_option maxHeartbeats 4000000

/-- Less told of arguments. -/
inductive Wv : D → D → Prop
  | wk {d d' : D} : Wk 0 d d' → Wv d d'
  | ag {ds ds' : List D} : ds.length = ds'.length → (∀ (i : Nat) (d d' : D), ds[i]? = some d → ds'[i]? = some d' → Wk 0 d d') → Wv (.ag ds) (.ag ds')
theorem Wk.up {N : Nat} {d d' : D} (h : Wk 0 d d') : Wk N d d' := by
  cases h with
  | refl => exact .refl
  | junk => exact .junk
  | ns => exact .ns
  | es => exact .es
  | ne => exact .ne
  | no h => omega
  | eo h => omega
  | os => exact .os
theorem Wv.ok {P : Program} {w : World} {φ : Nat → Nat × Nat} {A : Nat → Prop} {N : Nat} {d d' : D} (h : Wv d d') {u : Value} (hr : R P w φ A N d u) : R P w φ A N d' u := by
  cases h with
  | wk h => exact h.up.ok hr
  | ag h1 h2 => exact r_agwk h1 (fun i d d' hd hd' u hr => (h2 i d d' hd hd').up.ok hr) hr
inductive Wvs : List D → List D → Prop
  | nil : Wvs [] []
  | cons {d d' : D} {ds ds' : List D} : Wv d d' → Wvs ds ds' → Wvs (d :: ds) (d' :: ds')
theorem Wvs.ok {P : Program} {w : World} {φ : Nat → Nat × Nat} {A : Nat → Prop} {N : Nat} {ds ds' : List D} (h : Wvs ds ds') : ∀ {vs : List Value}, Rs P w φ A N ds vs → Rs P w φ A N ds' vs := by
  have len : ∀ {ds ds' : List D}, Wvs ds ds' → ds.length = ds'.length := by
    intro ds ds' h
    induction h with
    | nil => rfl
    | cons _ _ ih => simp [ih]
  have get : ∀ {ds ds' : List D}, Wvs ds ds' → ∀ (i : Nat) (d d' : D), ds[i]? = some d → ds'[i]? = some d' → Wv d d' := by
    intro ds ds' h
    induction h with
    | nil => intro i d d' h; simp at h
    | cons h1 _ ih =>
      intro i d d' hd hd'
      cases i with
      | zero => simp at hd hd'; subst hd; subst hd'; exact h1
      | succ i => exact ih i d d' (by simpa using hd) (by simpa using hd')
  intro vs hv
  exact rs_wk (len h) (fun i d d' hd hd' u hr => (get h i d d' hd hd').ok hr) hv
theorem Con.wk {P : Program} {f : FuncId} {args args' : List D} {H : List Row} {Q : D → List Row → Prop} (h : Con P f args H Q) (ha : Wvs args' args) : Con P f args' H Q :=
  Con.args' h fun _ _ _ _ _ hv => ha.ok hv
theorem wkcs {ds ds' : List D} (h : ds.length = ds'.length ∧ ∀ p ∈ ds.zip ds', p.1 = p.2 ∨ (p.1 = jN ∧ p.2 = .f (.s [] 0))) : Wv (.ag ds) (.ag ds') := by
  refine .ag h.1 fun i d d' hd hd' => ?_
  have hm : (d, d') ∈ ds.zip ds' := by
    have : (ds.zip ds')[i]? = some (d, d') := by rw [List.getElem?_zip_eq_some]; exact ⟨hd, hd'⟩
    exact List.mem_of_getElem? this
  rcases h.2 _ hm with e | ⟨e1, e2⟩
  · dsimp only at e; subst e; exact .refl
  · dsimp only at e1 e2; subst e1; subst e2; exact .ns
theorem vws_stL {a b c : Nat} {s : S12} {H : List Row} (h1 : H[a]? = some (rN s.nodes)) (h2 : H[b]? = some (rT s.tms)) (h3 : H[c]? = some (rS s.sgs)) : Vw H (.ag (stL a b c s)) (stD s) :=
  .ags (.cons .f (.cons .f (.cons .f (.cons .f (.cons .f (.cons .f (.cons (.sl h1 (fun e => by rw [List.eq_nil_of_length_eq_zero e]; rfl)) (.cons (.sl h2 (fun e => by rw [List.eq_nil_of_length_eq_zero e]; rfl)) (.cons (.sl h3 (fun e => by rw [List.eq_nil_of_length_eq_zero e]; rfl)) .nil)))))))))
set_option maxRecDepth 100000 in
theorem c_st_Apply (s : S12) (e : Ev) (hs : FitA s) (hd : e.data.length ≤ 1000000) (hf : Fit e.defs) (hi : 0 ≤ s.id ∧ s.id < 1000000000) :
    Con Try.prog 5 [stD s, evD e] [] fun r H' => r = .tp [stD (applyL s e).2, D.int (applyL s e).1] ∧ H' = [] := by
  suffices hh : ∀ Q : D → List Row → Prop, (∀ r H', r = .tp [stD (applyL s e).2, D.int (applyL s e).1] → H' = [] → Q r H') → Con Try.prog 5 [stD s, evD e] [] Q from hh _ fun _ _ h1 h2 => ⟨h1, h2⟩
  intro Q hQ
  refine Con.walk good fn_st_Apply (by simp) ?_
  unfold s_st_Apply
  simp only [argsE, stD, evD]
  repeat' (first | (with_reducible first | refine Wa.h ?_ | refine We.h fun K hK => ?_ | refine Wd.h fun K M hK hM => ?_ | (refine hK _ _ _ _ ?_; clear hK K; try clear hM M) | (refine hM ?_; clear hM M; try clear hK K) | refine Ws.h ?_ | refine Wr.h ?_ | refine Wb.h fun K hK => ?_ | (refine hK _ ?_; clear hK K)) | ((with_reducible refine kQ ?_ ?_); kernel_rfl) | ((with_reducible refine k1 ?_ ?_); rfl) | ((with_reducible refine k0 ?_ ?_); rfl) | ((with_reducible apply kB) <;> first | rfl | intro h) | ((with_reducible refine kM ?_ ?_); rfl) | ((with_reducible refine wuT ?_ ?_); · assumption) | ((with_reducible refine wuF ?_ ?_); · assumption) | ((with_reducible refine wtT ?_ ?_); · assumption) | ((with_reducible refine wtF ?_ ?_); · assumption) | (with_reducible refine Wt.h (fun h => ?_) (fun h => ?_)) <;> try (exfalso; omega) | (with_reducible refine Wu.h (fun h => ?_) (fun h => ?_)) <;> try simp only [h] | (with_reducible refine Wn.h (fun h => ?_) ?_) <;> try (exfalso; omega) | ((fail_if_success with_reducible refine Wz.h ?_); simp (disch := omega) only [↓LD, LU, LS, LT, loadA_rf, seval, LSt]) | ((with_reducible refine And.intro ?_ ?_); omega) | ((fail_if_success with_reducible refine Wz.h ?_); simp only [D.int, D.bool]))
  refine callW_emb (c_st_copied s hs.fit) [] (by kernel_rfl) rfl rfl ?_
  rintro _ _ ⟨rfl, rfl⟩
  simp (disch := omega) only [↓LD, LU, LS, LT, loadA_rf, seval, ren, List.getElem?_nil, stL, rN, rT, rS]
  repeat' (first | (with_reducible first | refine Wa.h ?_ | refine We.h fun K hK => ?_ | refine Wd.h fun K M hK hM => ?_ | (refine hK _ _ _ _ ?_; clear hK K; try clear hM M) | (refine hM ?_; clear hM M; try clear hK K) | refine Ws.h ?_ | refine Wr.h ?_ | refine Wb.h fun K hK => ?_ | (refine hK _ ?_; clear hK K)) | ((with_reducible refine kQ ?_ ?_); kernel_rfl) | ((with_reducible refine k1 ?_ ?_); rfl) | ((with_reducible refine k0 ?_ ?_); rfl) | ((with_reducible apply kB) <;> first | rfl | intro h) | ((with_reducible refine kM ?_ ?_); rfl) | ((with_reducible refine wuT ?_ ?_); · assumption) | ((with_reducible refine wuF ?_ ?_); · assumption) | ((with_reducible refine wtT ?_ ?_); · assumption) | ((with_reducible refine wtF ?_ ?_); · assumption) | (with_reducible refine Wt.h (fun h => ?_) (fun h => ?_)) <;> try (exfalso; omega) | (with_reducible refine Wu.h (fun h => ?_) (fun h => ?_)) <;> try simp only [h] | (with_reducible refine Wn.h (fun h => ?_) ?_) <;> try (exfalso; omega) | ((fail_if_success with_reducible refine Wz.h ?_); simp (disch := omega) only [↓LD, LU, LS, LT, loadA_rf, seval, evD]) | ((with_reducible refine And.intro ?_ ?_); omega) | ((fail_if_success with_reducible refine Wz.h ?_); simp only [D.int, D.bool]))
  refine callW_emb (c_st_apply s e hs hd hf hi) [6, 3, 4, 5] (by kernel_rfl) rfl rfl ?_
  rintro _ _ ⟨rfl, m, rfl⟩
  unfold applyL at hQ
  generalize applyT s e = p at hQ ⊢
  obtain ⟨v, s'⟩ := p
  dsimp only at hQ ⊢
  rcases m with _ | _ | _ | m
  · simp (disch := omega) only [↓LD, LU, LS, LT, loadA_rf, seval, ren, List.getElem?_nil, stM, stH, stL, rN, rT, rS]
    repeat' (first | (with_reducible first | refine Wa.h ?_ | refine Ws.h ?_ | refine Wr.h ?_ | refine Wb.h fun K hK => ?_ | (refine hK _ ?_; clear hK K)) | ((with_reducible refine kQ ?_ ?_); kernel_rfl) | ((with_reducible refine k1 ?_ ?_); rfl) | ((with_reducible refine k0 ?_ ?_); rfl) | ((with_reducible apply kB) <;> first | rfl | intro h) | ((with_reducible refine kM ?_ ?_); rfl) | ((with_reducible refine wuT ?_ ?_); · assumption) | ((with_reducible refine wuF ?_ ?_); · assumption) | ((with_reducible refine wtT ?_ ?_); · assumption) | ((with_reducible refine wtF ?_ ?_); · assumption) | (with_reducible refine Wt.h (fun h => ?_) (fun h => ?_)) <;> try (exfalso; omega) | (with_reducible refine Wu.h (fun h => ?_) (fun h => ?_)) <;> try simp only [h] | (with_reducible refine Wn.h (fun h => ?_) ?_) <;> try (exfalso; omega) | ((fail_if_success with_reducible refine Wz.h ?_); simp (disch := omega) only [↓LD, LU, LS, LT, loadA_rf, seval]) | ((with_reducible refine And.intro ?_ ?_); omega) | ((fail_if_success with_reducible refine Wz.h ?_); simp only [D.int, D.bool]))
    · rw [if_pos (by assumption)] at hQ
      exact RetS.still (ds := [.ag (stL 3 4 5 s'), D.int 0]) (by kernel_rfl) (by kernel_rfl) (.tps (.cons (vws_stL rfl rfl rfl) (.cons .f .nil))) (hQ _ _ rfl rfl)
    · rw [if_neg (by assumption)] at hQ
      exact RetS.still (ds := [.ag [jI, jI, jI, jI, jF, jN, jN, jN, jN], D.int v]) (by kernel_rfl) (by kernel_rfl) (.tps (.cons (.ags (.cons .f (.cons .f (.cons .f (.cons .f (.cons .f (.cons .nil (.cons .nil (.cons .nil (.cons .nil .nil)))))))))) (.cons .f .nil))) (hQ _ _ rfl rfl)
  · simp (disch := omega) only [↓LD, LU, LS, LT, loadA_rf, seval, ren, List.getElem?_nil, stM, stH, stL, rN, rT, rS]
    repeat' (first | (with_reducible first | refine Wa.h ?_ | refine Ws.h ?_ | refine Wr.h ?_ | refine Wb.h fun K hK => ?_ | (refine hK _ ?_; clear hK K)) | ((with_reducible refine kQ ?_ ?_); kernel_rfl) | ((with_reducible refine k1 ?_ ?_); rfl) | ((with_reducible refine k0 ?_ ?_); rfl) | ((with_reducible apply kB) <;> first | rfl | intro h) | ((with_reducible refine kM ?_ ?_); rfl) | ((with_reducible refine wuT ?_ ?_); · assumption) | ((with_reducible refine wuF ?_ ?_); · assumption) | ((with_reducible refine wtT ?_ ?_); · assumption) | ((with_reducible refine wtF ?_ ?_); · assumption) | (with_reducible refine Wt.h (fun h => ?_) (fun h => ?_)) <;> try (exfalso; omega) | (with_reducible refine Wu.h (fun h => ?_) (fun h => ?_)) <;> try simp only [h] | (with_reducible refine Wn.h (fun h => ?_) ?_) <;> try (exfalso; omega) | ((fail_if_success with_reducible refine Wz.h ?_); simp (disch := omega) only [↓LD, LU, LS, LT, loadA_rf, seval]) | ((with_reducible refine And.intro ?_ ?_); omega) | ((fail_if_success with_reducible refine Wz.h ?_); simp only [D.int, D.bool]))
    · rw [if_pos (by assumption)] at hQ
      exact RetS.still (ds := [.ag (stL 7 4 5 s'), D.int 0]) (by kernel_rfl) (by kernel_rfl) (.tps (.cons (vws_stL rfl rfl rfl) (.cons .f .nil))) (hQ _ _ rfl rfl)
    · rw [if_neg (by assumption)] at hQ
      exact RetS.still (ds := [.ag [jI, jI, jI, jI, jF, jN, jN, jN, jN], D.int v]) (by kernel_rfl) (by kernel_rfl) (.tps (.cons (.ags (.cons .f (.cons .f (.cons .f (.cons .f (.cons .f (.cons .nil (.cons .nil (.cons .nil (.cons .nil .nil)))))))))) (.cons .f .nil))) (hQ _ _ rfl rfl)
  · simp (disch := omega) only [↓LD, LU, LS, LT, loadA_rf, seval, ren, List.getElem?_nil, stM, stH, stL, rN, rT, rS]
    repeat' (first | (with_reducible first | refine Wa.h ?_ | refine Ws.h ?_ | refine Wr.h ?_ | refine Wb.h fun K hK => ?_ | (refine hK _ ?_; clear hK K)) | ((with_reducible refine kQ ?_ ?_); kernel_rfl) | ((with_reducible refine k1 ?_ ?_); rfl) | ((with_reducible refine k0 ?_ ?_); rfl) | ((with_reducible apply kB) <;> first | rfl | intro h) | ((with_reducible refine kM ?_ ?_); rfl) | ((with_reducible refine wuT ?_ ?_); · assumption) | ((with_reducible refine wuF ?_ ?_); · assumption) | ((with_reducible refine wtT ?_ ?_); · assumption) | ((with_reducible refine wtF ?_ ?_); · assumption) | (with_reducible refine Wt.h (fun h => ?_) (fun h => ?_)) <;> try (exfalso; omega) | (with_reducible refine Wu.h (fun h => ?_) (fun h => ?_)) <;> try simp only [h] | (with_reducible refine Wn.h (fun h => ?_) ?_) <;> try (exfalso; omega) | ((fail_if_success with_reducible refine Wz.h ?_); simp (disch := omega) only [↓LD, LU, LS, LT, loadA_rf, seval]) | ((with_reducible refine And.intro ?_ ?_); omega) | ((fail_if_success with_reducible refine Wz.h ?_); simp only [D.int, D.bool]))
    · rw [if_pos (by assumption)] at hQ
      exact RetS.still (ds := [.ag (stL 3 7 5 s'), D.int 0]) (by kernel_rfl) (by kernel_rfl) (.tps (.cons (vws_stL rfl rfl rfl) (.cons .f .nil))) (hQ _ _ rfl rfl)
    · rw [if_neg (by assumption)] at hQ
      exact RetS.still (ds := [.ag [jI, jI, jI, jI, jF, jN, jN, jN, jN], D.int v]) (by kernel_rfl) (by kernel_rfl) (.tps (.cons (.ags (.cons .f (.cons .f (.cons .f (.cons .f (.cons .f (.cons .nil (.cons .nil (.cons .nil (.cons .nil .nil)))))))))) (.cons .f .nil))) (hQ _ _ rfl rfl)
  · simp (disch := omega) only [↓LD, LU, LS, LT, loadA_rf, seval, ren, List.getElem?_nil, stM, stH, stL, rN, rT, rS]
    repeat' (first | (with_reducible first | refine Wa.h ?_ | refine Ws.h ?_ | refine Wr.h ?_ | refine Wb.h fun K hK => ?_ | (refine hK _ ?_; clear hK K)) | ((with_reducible refine kQ ?_ ?_); kernel_rfl) | ((with_reducible refine k1 ?_ ?_); rfl) | ((with_reducible refine k0 ?_ ?_); rfl) | ((with_reducible apply kB) <;> first | rfl | intro h) | ((with_reducible refine kM ?_ ?_); rfl) | ((with_reducible refine wuT ?_ ?_); · assumption) | ((with_reducible refine wuF ?_ ?_); · assumption) | ((with_reducible refine wtT ?_ ?_); · assumption) | ((with_reducible refine wtF ?_ ?_); · assumption) | (with_reducible refine Wt.h (fun h => ?_) (fun h => ?_)) <;> try (exfalso; omega) | (with_reducible refine Wu.h (fun h => ?_) (fun h => ?_)) <;> try simp only [h] | (with_reducible refine Wn.h (fun h => ?_) ?_) <;> try (exfalso; omega) | ((fail_if_success with_reducible refine Wz.h ?_); simp (disch := omega) only [↓LD, LU, LS, LT, loadA_rf, seval]) | ((with_reducible refine And.intro ?_ ?_); omega) | ((fail_if_success with_reducible refine Wz.h ?_); simp only [D.int, D.bool]))
    · rw [if_pos (by assumption)] at hQ
      exact RetS.still (ds := [.ag (stL 3 4 7 s'), D.int 0]) (by kernel_rfl) (by kernel_rfl) (.tps (.cons (vws_stL rfl rfl rfl) (.cons .f .nil))) (hQ _ _ rfl rfl)
    · rw [if_neg (by assumption)] at hQ
      exact RetS.still (ds := [.ag [jI, jI, jI, jI, jF, jN, jN, jN, jN], D.int v]) (by kernel_rfl) (by kernel_rfl) (.tps (.cons (.ags (.cons .f (.cons .f (.cons .f (.cons .f (.cons .f (.cons .nil (.cons .nil (.cons .nil (.cons .nil .nil)))))))))) (.cons .f .nil))) (hQ _ _ rfl rfl)
end Go.Proofs.Ytgbbpelfpagdoaa.Mir

/- A run's state: Ending. -/
namespace Go.Proofs.Ytgbbpelfpagdoaa.Mir
open Go Go.RowKit
set_option linter.unusedVariables false
set_option linter.unusedSimpArgs false
set_option maxHeartbeats 4000000

theorem vw_stF {id ver time closed : Int} {cancel : Bool} {defs : List Nd} {nodes : List Nn} {tms : List Tm} {sgs : List Sg} {T : TypeId} {H : List Row} :
    Vw (.box T [D.int id, D.int ver, D.int time, D.int closed, D.bool cancel, .f (fG defs), .f (fNn nodes), .f (fTm tms), .f (fSg sgs)] :: H) (.pt 0 0) (.rf (S12.cs ⟨id, ver, time, closed, cancel, defs, nodes, tms, sgs⟩)) := by
  refine .pt (fs := S12.cs ⟨id, ver, time, closed, cancel, defs, nodes, tms, sgs⟩) rfl rfl ?_
  intro i d x hd hx
  rcases i with _ | _ | _ | _ | _ | _ | _ | _ | _ | i
  all_goals (simp [S12.cs] at hd hx; try (subst hd; subst hx))
  all_goals exact .f
instance {id ver time closed : Int} {cancel : Bool} {defs : List Nd} {nodes : List Nn} {tms : List Tm} {sgs : List Sg} {k : Int} {H : List Row} {K : D → List Row → Prop} : Wa (callW Try.prog (.fn 13 []) [.pt 0 0, .f (.v (.int .i64 k))] (.box 28 [.f (.v (.int .i64 id)), .f (.v (.int .i64 ver)), .f (.v (.int .i64 time)), .f (.v (.int .i64 closed)), .f (.v (.bool cancel)), .f (fG defs), .f (fNn nodes), .f (fTm tms), .f (fSg sgs)] :: H) K)
    (nodes.length ≤ 1000000 ∧ K (.f (.v (.int .i64 (cntL nodes k)))) (.box 28 [.f (.v (.int .i64 id)), .f (.v (.int .i64 ver)), .f (.v (.int .i64 time)), .f (.v (.int .i64 closed)), .f (.v (.bool cancel)), .f (fG defs), .f (fNn nodes), .f (fTm tms), .f (fSg sgs)] :: H)) := ⟨fun h => by
  refine callW_peek (c_st_status ⟨id, ver, time, closed, cancel, defs, nodes, tms, sgs⟩ k h.1) (.cons vw_stF (.cons .f .nil)) ?_ ?_
  · rintro _ _ ⟨rfl, rfl⟩
    exact ⟨.f .v, by simp⟩
  · rintro _ _ ⟨rfl, rfl⟩
    show K (.f (.v (.int .i64 (cntL nodes k)))) (_ ++ [])
    rw [List.append_nil]; exact h.2⟩
instance {id ver time closed : Int} {cancel : Bool} {defs : List Nd} {nodes : List Nn} {tms : List Tm} {sgs : List Sg} {k : Int} {H : List Row} {K : Bool → D → List Row → Prop} : Wa (callDr Try.prog (.fn 13 []) [.pt 0 0, .f (.v (.int .i64 k))] (.box 28 [.f (.v (.int .i64 id)), .f (.v (.int .i64 ver)), .f (.v (.int .i64 time)), .f (.v (.int .i64 closed)), .f (.v (.bool cancel)), .f (fG defs), .f (fNn nodes), .f (fTm tms), .f (fSg sgs)] :: H) K)
    (nodes.length ≤ 1000000 ∧ K false (.f (.v (.int .i64 (cntL nodes k)))) (.box 28 [.f (.v (.int .i64 id)), .f (.v (.int .i64 ver)), .f (.v (.int .i64 time)), .f (.v (.int .i64 closed)), .f (.v (.bool cancel)), .f (fG defs), .f (fNn nodes), .f (fTm tms), .f (fSg sgs)] :: H)) := ⟨fun h => by
  refine callDr_peek (c_st_status ⟨id, ver, time, closed, cancel, defs, nodes, tms, sgs⟩ k h.1) (.cons vw_stF (.cons .f .nil)) ⟨.f .v, by simp⟩ ?_
  show K false (.f (.v (.int .i64 (cntL nodes k)))) (_ ++ [])
  rw [List.append_nil]; exact h.2⟩
def endingL (s : S12) : Int :=
  if s.closed ≠ 0 ∨ s.defs.length = 0 then 0 else if s.cancel = true ∧ cntL s.nodes 1 = 0 then 11 else if 0 < cntL s.nodes 3 then 10 else if cntL s.nodes 2 = s.nodes.length then 9 else 0
set_option maxRecDepth 100000 in
theorem c_st_Ending (s : S12) (hl : s.nodes.length ≤ 1000000) : Con Try.prog 8 [stD s] [] fun r H' => r = D.int (endingL s) ∧ H' = [] := by
  obtain ⟨id, ver, time, closed, cancel, defs, nodes, tms, sgs⟩ := s
  dsimp only at hl
  refine Con.walk good fn_st_Ending (by simp) ?_
  unfold s_st_Ending
  simp only [argsE, stD]
  cases cancel
  all_goals
    repeat' (first | (with_reducible first | refine Wa.h ?_ | refine We.h fun K hK => ?_ | refine Wd.h fun K M hK hM => ?_ | (refine hK _ _ _ _ ?_; clear hK K; try clear hM M) | (refine hM ?_; clear hM M; try clear hK K) | refine Ws.h ?_ | refine Wr.h ?_ | refine Wb.h fun K hK => ?_ | (refine hK _ ?_; clear hK K)) | ((with_reducible refine kQ ?_ ?_); kernel_rfl) | ((with_reducible refine k1 ?_ ?_); rfl) | ((with_reducible refine k0 ?_ ?_); rfl) | ((with_reducible apply kB) <;> first | rfl | intro h) | ((with_reducible refine kM ?_ ?_); rfl) | ((with_reducible refine wuT ?_ ?_); · assumption) | ((with_reducible refine wuF ?_ ?_); · assumption) | ((with_reducible refine wtT ?_ ?_); · assumption) | ((with_reducible refine wtF ?_ ?_); · assumption) | (with_reducible refine Wt.h (fun h => ?_) (fun h => ?_)) <;> try (exfalso; omega) | (with_reducible refine Wu.h (fun h => ?_) (fun h => ?_)) <;> try simp only [h] | (with_reducible refine Wn.h (fun h => ?_) ?_) <;> try (exfalso; omega) | ((fail_if_success with_reducible refine Wz.h ?_); simp (disch := omega) only [↓LD, LU, LS, LT, loadA_rf, seval, LSt]) | ((with_reducible refine And.intro ?_ ?_); omega) | ((fail_if_success with_reducible refine Wz.h ?_); simp only [D.int, D.bool]))
  all_goals (refine end1 rfl rfl (by kernel_rfl) .f ⟨congrArg D.int ?_, rfl⟩; simp only [endingL])
  all_goals (repeat' split) <;> (try simp only [true_and, false_and, Bool.false_eq_true, not_false_eq_true, not_true_eq_false, ne_eq] at *) <;> omega
end Go.Proofs.Ytgbbpelfpagdoaa.Mir

/- StateTries in plain lists. -/
namespace Go.Proofs.Ytgbbpelfpagdoaa.Mir
open Go Go.RowKit
set_option linter.unusedVariables false
set_option linter.unusedSimpArgs false
set_option maxHeartbeats 4000000

def tS (t l g : Int) (n : Nat) : S12 := ⟨2 * n + 1, 1, n * g, 0, false, [⟨[], t, l⟩], [⟨if (n : Int) = t then 3 else 0, n, 0, []⟩], [], []⟩
def tB (t l g : Int) (n : Nat) : S12 := ⟨2 * n, 1, n * g, 0, false, [⟨[], t, l⟩], [⟨1, n, n * g + l, []⟩], [], []⟩
theorem tr_check {t l : Int} (h1 : 1 ≤ t) (h2 : t ≤ 5) (h3 : 1 ≤ l) (h4 : l ≤ 1048576) : checkL [⟨[], t, l⟩] = 0 := by
  have hb : rightB ⟨[], t, l⟩ 1 = true := by simp [rightB, rise, h1, h2, h3, h4]
  unfold checkL
  rw [if_neg (by simp), if_neg (by simp [hb]), if_neg]
  simp [orderL, ordF, nxt, metB, gt]
theorem tr_ready {t l g : Int} {n : Nat} (h1 : 1 ≤ t) (h2 : t ≤ 5) (h3 : 1 ≤ l) (h4 : l ≤ 1048576) (hn : (n : Int) < t) : readyS (tS t l g n) = [0] := by
  have := tr_check h1 h2 h3 h4
  simp [readyS, tS, readyL, this, rdy, doneL, inB, metB, gt, wtB, List.filter]
  rw [if_neg (by omega)]
  simp [wtB, gt]
theorem tr_ready0 {t l g : Int} (h1 : 1 ≤ t) (h2 : t ≤ 5) (h3 : 1 ≤ l) (h4 : l ≤ 1048576) (n : Nat) (hn : (n : Int) = t) : readyS (tS t l g n) = [] := by
  have := tr_check h1 h2 h3 h4
  simp [readyS, tS, readyL, this, rdy, doneL, inB, metB, gt, wtB, List.filter, hn]
theorem tr_readyB {t l g : Int} (h1 : 1 ≤ t) (h2 : t ≤ 5) (h3 : 1 ≤ l) (h4 : l ≤ 1048576) (n : Nat) : readyS (tB t l g n) = [] := by
  have := tr_check h1 h2 h3 h4
  simp [readyS, tB, readyL, this, rdy, doneL, inB, metB, gt, wtB, List.filter]
def evS (t l : Int) : Ev := ⟨1, 1, 0, 1, 0, 0, [], [], [⟨[], t, l⟩]⟩
def evB2 (g : Int) (n : Nat) : Ev := ⟨2 * n, 1, n * g, 2, 0, n, [], [], []⟩
def evX (g : Int) (n : Nat) : Ev := ⟨2 * n + 1, 1, n * g, 4, 0, n, [], [], []⟩
def evL (t : Int) : Ev := ⟨2 * t + 2, 1, 99999, 2, 0, min (t + 1) 5, [], [], []⟩
theorem ver1 : verB 1 = true := by decide
theorem rightE_of {e : Ev} (h1 : 1 ≤ e.ty ∧ e.ty ≤ 12) (h2 : 1 ≤ e.id ∧ e.id ≤ 200) (h3 : verB e.ver = true) (h4 : 0 ≤ e.time ∧ e.time ≤ 1099511627776) (h5 : numB (pNode e.ty) (pN e.ty) e.node e.n = true) (h6 : textB (pName e.ty) (pData e.ty) e.name e.data = true)
    (h7 : (if pDefs e.ty then defsB e.defs else decide (e.defs = [])) = true) : rightE e = true := by
  simp only [rightE, pOk, inI, h3, h5, h6, h7, decide_eq_true h1.1, decide_eq_true h1.2, decide_eq_true h2.1, decide_eq_true h2.2, decide_eq_true h4.1, decide_eq_true h4.2, Bool.and_self]
theorem not_ne {a b : Prop} [Decidable a] [Decidable b] (h : a ↔ b) : ¬ decide a ≠ decide b := by
  simp only [ne_eq, Decidable.not_not]; exact decide_eq_decide.2 h
theorem num2 {n : Int} (h : 1 ≤ n ∧ n ≤ 5) : numB true 5 0 n = true := by
  simp [numB, inI, h.1, h.2]
theorem tr_start {t l g : Int} (h1 : 1 ≤ t) (h2 : t ≤ 5) (h3 : 1 ≤ l) (h4 : l ≤ 1048576) : applyL s0 (evS t l) = (0, tS t l g 0) := by
  have hr : rightE (evS t l) = true := by
    simp [rightE, evS, pOk, inI, ver1, numB, pNode, pN, textB, pName, pData, pDefs, defsB, rightB, rise, h1, h2, h3, h4]
  have hc := tr_check h1 h2 h3 h4
  have : applyT s0 (evS t l) = (0, tS t l g 0) := by
    unfold applyT
    rw [if_neg (by rw [hr]; simp [s0, evS]), if_neg (by simp [s0]), if_neg (by simp [s0, evS])]
    simp [turnL, startL, evS, hc, s0, tS, nd0]
    omega
  simp [applyL, this]
theorem tr_time {t g : Int} {n : Nat} (h2 : t ≤ 5) (g1 : 0 ≤ g) (g2 : g < 9) (hn : (n : Int) ≤ t) : 0 ≤ (n : Int) * g ∧ (n : Int) * g ≤ 40 ∧ (n : Int) * g ≤ ((n + 1 : Nat) : Int) * g := by
  rcases (show n = 0 ∨ n = 1 ∨ n = 2 ∨ n = 3 ∨ n = 4 ∨ n = 5 by omega) with rfl | rfl | rfl | rfl | rfl | rfl <;> simp <;> omega
theorem tr_begin {t l g : Int} {n : Nat} (h1 : 1 ≤ t) (h2 : t ≤ 5) (h3 : 1 ≤ l) (h4 : l ≤ 1048576) (g1 : 0 ≤ g) (g2 : g < 9) (hn : (n : Int) < t) : applyL (tS t l g n) (evB2 g (n + 1)) = (0, tB t l g (n + 1)) := by
  have ht := tr_time h2 g1 g2 (show ((n + 1 : Nat) : Int) ≤ t by omega)
  have ht0 := tr_time h2 g1 g2 (show (n : Int) ≤ t by omega)
  have ht' := ht
  rw [show ((n + 1 : Nat) : Int) = (n : Int) + 1 from rfl] at ht ht0
  have hr : rightE (evB2 g (n + 1)) = true := by
    refine rightE_of (by simp [evB2]) (show 1 ≤ (evB2 g (n + 1)).id ∧ (evB2 g (n + 1)).id ≤ 200 by simp only [evB2]; omega) ver1 (show 0 ≤ (evB2 g (n + 1)).time ∧ (evB2 g (n + 1)).time ≤ 1099511627776 by simp only [evB2]; omega) (num2 (show 1 ≤ (evB2 g (n + 1)).n ∧ (evB2 g (n + 1)).n ≤ 5 by simp only [evB2]; omega)) rfl rfl
  have hy := tr_ready (g := g) h1 h2 h3 h4 hn
  have : applyT (tS t l g n) (evB2 g (n + 1)) = (0, tB t l g (n + 1)) := by
    unfold applyT
    rw [if_neg (by rw [hr]; simp [tS, evB2]; omega), if_neg (by simp [tS]), if_neg (not_ne (by simp only [tS, evB2]; omega))]
    have hb : beginL (tS t l g n) (evB2 g (n + 1)) = (0, { tS t l g n with nodes := [⟨1, (n : Int) + 1, (n + 1) * g + l, []⟩] }) := by
      unfold beginL
      rw [if_neg (by simp [tS, evB2]), if_neg (by rw [hy]; simp [tS, evB2, gt])]
      simp [tS, evB2, gt]
    simp [turnL, evB2, tB, tS] at hb ⊢
    simp [hb]
  simp [applyL, this]
theorem tr_broke {t l g : Int} {n : Nat} (h1 : 1 ≤ t) (h2 : t ≤ 5) (h3 : 1 ≤ l) (h4 : l ≤ 1048576) (g1 : 0 ≤ g) (g2 : g < 9) (hn : (n : Int) < t) : applyL (tB t l g (n + 1)) (evX g (n + 1)) = (0, tS t l g (n + 1)) := by
  have ht := tr_time h2 g1 g2 (show ((n + 1 : Nat) : Int) ≤ t by omega)
  have ht' := ht
  rw [show ((n + 1 : Nat) : Int) = (n : Int) + 1 from rfl] at ht
  have hr : rightE (evX g (n + 1)) = true := by
    refine rightE_of (by simp [evX]) (show 1 ≤ (evX g (n + 1)).id ∧ (evX g (n + 1)).id ≤ 200 by simp only [evX]; omega) ver1 (show 0 ≤ (evX g (n + 1)).time ∧ (evX g (n + 1)).time ≤ 1099511627776 by simp only [evX]; omega) (num2 (show 1 ≤ (evX g (n + 1)).n ∧ (evX g (n + 1)).n ≤ 5 by simp only [evX]; omega)) rfl rfl
  have : applyT (tB t l g (n + 1)) (evX g (n + 1)) = (0, tS t l g (n + 1)) := by
    unfold applyT
    rw [if_neg (by rw [hr]; simp [tB, evX]), if_neg (by simp [tB]), if_neg (not_ne (by simp only [tB, evX]; omega))]
    have hb : endL (tB t l g (n + 1)) (evX g (n + 1)) = (0, { tB t l g (n + 1) with nodes := [⟨if ((n + 1 : Nat) : Int) = t then 3 else 0, (n + 1 : Nat), 0, []⟩] }) := by
      unfold endL
      rw [if_neg (by simp [tB, evX]), if_neg (by simp [tB, evX, gt]), if_neg (by simp [evX])]
      by_cases hc : ((n + 1 : Nat) : Int) = t
      · rw [if_pos (by simpa [tB, evX, gt] using hc), if_pos hc]
        simp [tB, evX, gt]
      · rw [if_neg (by simpa [tB, evX, gt] using hc), if_neg hc]
        simp [tB, evX, gt]
    simp [turnL, evX, tB, tS] at hb ⊢
    simp [hb]
  simp [applyL, this]
theorem tr_last {t l g : Int} {n : Nat} (h1 : 1 ≤ t) (h2 : t ≤ 5) (h3 : 1 ≤ l) (h4 : l ≤ 1048576) (g1 : 0 ≤ g) (g2 : g < 9) (hn : (n : Int) = t) : (applyL (tS t l g n) (evL t)).1 = 4 := by
  have ht := tr_time h2 g1 g2 (show (n : Int) ≤ t by omega)
  have hr : rightE (evL t) = true := by
    refine rightE_of (by simp [evL]) (show 1 ≤ (evL t).id ∧ (evL t).id ≤ 200 by simp only [evL]; omega) ver1 (show 0 ≤ (evL t).time ∧ (evL t).time ≤ 1099511627776 by simp only [evL]; omega) (num2 (show 1 ≤ (evL t).n ∧ (evL t).n ≤ 5 by simp only [evL]; omega)) rfl rfl
  have hy := tr_ready0 (g := g) h1 h2 h3 h4 n hn
  have : (applyT (tS t l g n) (evL t)).1 = 4 := by
    unfold applyT
    rw [if_neg (by rw [hr]; simp [tS, evL]; omega), if_neg (by simp [tS]), if_neg (not_ne (by simp only [tS, evL]; omega))]
    have hb : beginL (tS t l g n) (evL t) = (4, tS t l g n) := by
      unfold beginL
      rw [if_neg (by simp [tS, evL]), if_pos (by rw [hy]; simp)]
    simp [turnL, evL] at hb ⊢
    simp [hb]
  simp [applyL, this]
theorem tr_end {t l g : Int} {n : Nat} (hn : (n : Int) = t) : endingL (tS t l g n) = 10 := by
  simp [endingL, tS, cntL, hn]
end Go.Proofs.Ytgbbpelfpagdoaa.Mir

/- Functions of the program, told without it. -/
namespace Go.Proofs.Ytgbbpelfpagdoaa.Mir
open Go Go.RowKit

/-- cutover.cutoverhand.Pick -/
def s_hand_Pick : SCode :=
  (.seq (.ops [.a 4 (.mv (kI 0))]) (.seq (.ops [.a 5 (.mv (.t 0)), .a 6 (.mv (.t 1)), .a 7 (.bin .rem (.t 5) (.t 6)), .a 0 (.mv (.t 7))]) (.seq (.seq
 (.ops [.a 8 (.mv (.t 0)), .a 9 (.bin .lss (.t 8) (kI 0))]) (.cond (.t 9) (.ops [.a 10 (.mv (.t 0)), .a 11 (.mv (.t 1)), .a 12 (.bin .add (.t 10) (.t
 11)), .a 0 (.mv (.t 12))]) .skip)) (.seq (.ops [.a 13 (.mv (.t 0)), .a 4 (.mv (.t 13))]) .ret))))
theorem fn_hand_Pick : Fn Try.prog 4 14 [.t 4] s_hand_Pick := .of Try.func4 (by kernel_rfl)

end Go.Proofs.Ytgbbpelfpagdoaa.Mir

/- The hand's Pick; contracts out of runs. -/
namespace Go.Proofs.Ytgbbpelfpagdoaa.Mir
open Go Go.RowKit
set_option linter.unusedVariables false
set_option linter.unusedSimpArgs false
set_option maxHeartbeats 2000000

def pick (x n : Int) : Int := if x.tmod n < 0 then x.tmod n + n else x.tmod n
theorem tmod_lt {x n : Int} (hn : 0 < n) : x.tmod n < n := Int.tmod_lt_of_pos x hn
theorem tmod_gt {x n : Int} (hn : 0 < n) : -n < x.tmod n := by
  have := Int.tmod_lt_of_pos (-x) hn
  rw [Int.neg_tmod] at this; omega
theorem pick_in {x n : Int} (hn : 0 < n) : 0 ≤ pick x n ∧ pick x n < n := by
  have h1 := tmod_lt (x := x) hn
  have h2 := tmod_gt (x := x) hn
  unfold pick; split <;> omega
theorem c_hand_Pick (x n : Int) (hn : 0 < n) (hn2 : n ≤ 1000000) : Con Try.prog 4 [D.int x, D.int n] [] fun r H' => r = D.int (pick x n) ∧ H' = [] := by
  have h1 := tmod_lt (x := x) hn
  have h2 := tmod_gt (x := x) hn
  refine Con.walk good fn_hand_Pick (by simp) ?_
  unfold s_hand_Pick
  simp only [argsE, List.length_cons, List.length_nil, Nat.reduceAdd]
  repeat' (first | (with_reducible first | refine Wa.h ?_ | refine Ws.h ?_ | refine Wr.h ?_ | refine Wb.h fun K hK => ?_ | (refine hK _ ?_; clear hK K)) | ((with_reducible refine kQ ?_ ?_); kernel_rfl) | ((with_reducible refine k1 ?_ ?_); rfl) | ((with_reducible refine k0 ?_ ?_); rfl) | ((with_reducible apply kB) <;> first | rfl | intro h) | ((with_reducible refine kM ?_ ?_); rfl) | (with_reducible refine Wt.h (fun h => ?_) (fun h => ?_)) <;> try (exfalso; omega) | (with_reducible refine Wu.h (fun h => ?_) (fun h => ?_)) <;> try simp only [h] | (with_reducible refine Wn.h (fun h => ?_) ?_) <;> try (exfalso; omega) | ((fail_if_success with_reducible refine Wz.h ?_); simp (disch := omega) only [↓LD, LU, LS, LT, loadA_rf, seval]) | ((with_reducible refine And.intro ?_ ?_); omega) | ((fail_if_success with_reducible refine Wz.h ?_); simp only [D.int, D.bool]))
  · refine end1 rfl rfl (by kernel_rfl) .f ⟨congrArg D.int ?_, rfl⟩
    rw [pick, if_pos h]
  · refine end1 rfl rfl (by kernel_rfl) .f ⟨congrArg D.int ?_, rfl⟩
    rw [pick, if_neg h]

/-- A run tells a contract. -/
theorem Con.run {P : Program} (hP : Good P) {ext : Ext} (hext : ∀ f g, ext f = some g → Sound P f g) {n : Nat} {f : FuncId} {args : List D} {H : List Row} {e : Eff} (hf : ∃ fn, P.funcs[f]? = some fn ∧ fn.body.isSome = true)
    (h : Mir.run P ext n f args H = some e) : Con P f args H fun r H' => r = e.res ∧ H' = e.heap H :=
  ⟨hf, fun w φ X vs hH ha => (run_ok hP hext n f args H e h w φ X vs hH ha).mono fun _ _ ⟨v, h1, h2⟩ => ⟨v, e.res, e.heap H, h1, ⟨rfl, rfl⟩, LeavesW.of h2⟩⟩
theorem Fn.has {P : Program} {f : FuncId} {n : Nat} {rs : List SR} {c : SCode} (h : Fn P f n rs c) : ∃ fn, P.funcs[f]? = some fn ∧ fn.body.isSome = true := by
  obtain ⟨fn, k, h1, h2, _⟩ := h
  exact ⟨fn, h1, by rw [h2]; rfl⟩
end Go.Proofs.Ytgbbpelfpagdoaa.Mir

/- Functions of the program, told without it. -/
namespace Go.Proofs.Ytgbbpelfpagdoaa.Mir
open Go Go.RowKit

/-- cutover.cutoverlaw12.StateTries -/
def s_law_StateTries : SCode :=
  (.seq (.ops [.a 6 (.mv kF)]) (.seq (.ops (ap [.a 13 (.mv (.t 0)), .a 14 (.call (kC 4) [(.t 13), (kI 5)])] [.a 15 (.bin .add (kI 1) (.t 14)), .a 0 (.mv
 (.t 15))])) (.seq (.ops (ap [.a 16 (.mv (.t 1)), .a 17 (.call (kC 4) [(.t 16), (kI 50)])] [.a 18 (.bin .add (kI 1) (.t 17)), .a 1 (.mv (.t 18))]))
 (.seq (.ops (ap [.a 19 (.mv (.t 2)), .a 20 (.call (kC 4) [(.t 19), (kI 9)])] [.a 2 (.mv (.t 20))])) (.seq (.ops (ap [.a 22 (.bld [jI, jI, jI, jI, jF,
 jN, jN, jN, jN] []), .a 23 (.mv (.t 0)), .a 24 (.mv (.t 1)), .a 25 (.bld [jN, jI, jI] [(1, 1, (.t 23)), (2, 1, (.t 24))]), .a 26 (.bsl 34 3 1 [jN, jI,
 jI] [(0, (.t 25))]), .a 27 (.bld [jI, jI, jI, jI, jI, jI, (.f (.v (.string ⟨#[]⟩))), jN, jN] [(0, 1, (kI 1)), (1, 1, (kI 1)), (3, 1, (kI 1)), (8, 1,
 (.t 26))]), .a 28 (.call (kC 5) [(.t 22), (.t 27)])] [.a 21 (.mv (.t 28)), .a 29 (.ext 0 (.t 21)), .a 30 (.ext 1 (.t 21)), .a 7 (.alloc 28 [jI, jI, jI,
 jI, jF, jN, jN, jN, jN]), .n (.store 9 (.t 7) (.t 29)), .a 8 (.mv (.t 30))])) (.seq (.seq (.ops [.a 9 (.mv (kI 1))]) (.block 0 (.loop (.seq (.seq (.ops
 (ap [.a 31 (.mv (.t 9)), .a 32 (.mv (.t 0)), .a 33 (.bin .leq (.t 31) (.t 32))] (ap [.a 34 (.mv (.t 33)), .g (some 35) (.mv (.t 8)) 34 true] (ap [.g
 (some 36) (.bin .eql (.t 35) (kI 0)) 34 true] [.a 37 (.pick (.t 34) (.t 36) kF)])))) (.cond (.t 37) .skip (.exit 0))) (.seq (.block 1 (.seq (.ops [.a
 40 (.mv (.t 9)), .a 41 (.mv (.t 2)), .a 42 (.bin .mul (.t 40) (.t 41)), .a 10 (.mv (.t 42))]) (.seq (.ops (ap [.a 44 (.loadA 9 (.t 7)), .a 45 (.mv (.t
 9)), .a 46 (.bin .mul (kI 2) (.t 45)), .a 47 (.mv (.t 10)), .a 48 (.mv (.t 9)), .a 49 (.bld [jI, jI, jI, jI, jI, jI, (.f (.v (.string ⟨#[]⟩))), jN, jN]
 [(0, 1, (.t 46)), (1, 1, (kI 1)), (2, 1, (.t 47)), (3, 1, (kI 2)), (5, 1, (.t 48))]), .a 50 (.call (kC 5) [(.t 44), (.t 49)])] [.a 43 (.mv (.t 50)), .a
 51 (.ext 0 (.t 43)), .a 52 (.ext 1 (.t 43)), .n (.store 9 (.t 7) (.t 51)), .a 8 (.mv (.t 52))])) (.seq (.seq (.ops (ap [.a 53 (.mv (.t 8)), .a 54 (.bin
 .neq (.t 53) (kI 0))] (ap [.a 55 (.mv (.t 54)), .g (some 56) (.off 6 (.t 7)) 55 false] (ap [.g (some 57) (.load1 (.t 56)) 55 false, .g (some 58) (.slen
 (.t 57)) 55 false, .g (some 59) (.bin .neq (.t 58) (kI 1)) 55 false] (ap [.a 60 (.pick (.t 55) kT (.t 59)), .a 61 (.mv (.t 60)), .g (some 62) (.off 6
 (.t 7)) 61 false] (ap [.g (some 63) (.load1 (.t 62)) 61 false, .g (some 64) (.idx 4 (.t 63) (kI 0)) 61 false, .g (some 65) (.off 0 (.t 64)) 61 false,
 .g (some 66) (.load1 (.t 65)) 61 false, .g (some 67) (.bin .neq (.t 66) (kI 1)) 61 false] (ap [.a 68 (.pick (.t 61) kT (.t 67)), .a 69 (.mv (.t 68)),
 .g (some 70) (.off 6 (.t 7)) 69 false] (ap [.g (some 71) (.load1 (.t 70)) 69 false, .g (some 72) (.idx 4 (.t 71) (kI 0)) 69 false, .g (some 73) (.off 2
 (.t 72)) 69 false, .g (some 74) (.load1 (.t 73)) 69 false, .g (some 75) (.mv (.t 10)) 69 false, .g (some 76) (.mv (.t 1)) 69 false, .g (some 77) (.bin
 .add (.t 75) (.t 76)) 69 false, .g (some 78) (.bin .neq (.t 74) (.t 77)) 69 false] (ap [.a 79 (.pick (.t 69) kT (.t 78)), .a 80 (.mv (.t 79)), .g (some
 81) (.loadA 9 (.t 7)) 80 false] (ap [.g (some 82) (.call (kC 6) [(.t 81)]) 80 false] (ap [.g (some 83) (.slen (.t 82)) 80 false, .g (some 84) (.bin
 .neq (.t 83) (kI 0)) 80 false] [.a 85 (.pick (.t 80) kT (.t 84))]))))))))))) (.cond (.t 85) (.seq (.ops [.a 6 (.mv kF)]) .ret) .skip)) (.seq (.ops (ap
 [.a 87 (.loadA 9 (.t 7)), .a 88 (.mv (.t 9)), .a 89 (.bin .mul (kI 2) (.t 88)), .a 90 (.bin .add (.t 89) (kI 1)), .a 91 (.mv (.t 10)), .a 92 (.mv (.t
 9)), .a 93 (.bld [jI, jI, jI, jI, jI, jI, (.f (.v (.string ⟨#[]⟩))), jN, jN] [(0, 1, (.t 90)), (1, 1, (kI 1)), (2, 1, (.t 91)), (3, 1, (kI 4)), (5, 1,
 (.t 92))]), .a 94 (.call (kC 5) [(.t 87), (.t 93)])] [.a 86 (.mv (.t 94)), .a 95 (.ext 0 (.t 86)), .a 96 (.ext 1 (.t 86)), .n (.store 9 (.t 7) (.t
 95)), .a 8 (.mv (.t 96))])) (.seq (.ops (ap [.a 97 (.mv (.t 8)), .a 98 (.bin .neq (.t 97) (kI 0))] (ap [.a 99 (.mv (.t 98)), .g (some 100) (.off 6 (.t
 7)) 99 false] (ap [.g (some 101) (.load1 (.t 100)) 99 false, .g (some 102) (.slen (.t 101)) 99 false, .g (some 103) (.bin .neq (.t 102) (kI 1)) 99
 false] (ap [.a 104 (.pick (.t 99) kT (.t 103)), .a 105 (.mv (.t 104)), .g (some 106) (.off 6 (.t 7)) 105 false] (ap [.g (some 107) (.load1 (.t 106))
 105 false, .g (some 108) (.idx 4 (.t 107) (kI 0)) 105 false, .g (some 109) (.off 0 (.t 108)) 105 false, .g (some 110) (.load1 (.t 109)) 105 false, .g
 (some 111) (.bin .eql (.t 110) (kI 3)) 105 false] (ap [.g (some 112) (.mv (.t 9)) 105 false, .g (some 113) (.mv (.t 0)) 105 false, .g (some 114) (.bin
 .eql (.t 112) (.t 113)) 105 false] (ap [.g (some 115) (.binb .neq (.t 111) (.t 114)) 105 false, .a 116 (.pick (.t 105) kT (.t 115)), .a 117 (.mv (.t
 116)), .g (some 118) (.off 6 (.t 7)) 117 false] (ap [.g (some 119) (.load1 (.t 118)) 117 false, .g (some 120) (.idx 4 (.t 119) (kI 0)) 117 false, .g
 (some 121) (.off 2 (.t 120)) 117 false, .g (some 122) (.load1 (.t 121)) 117 false, .g (some 123) (.bin .neq (.t 122) (kI 0)) 117 false] [.a 124 (.pick
 (.t 117) kT (.t 123))]))))))))) (.cond (.t 124) (.seq (.ops [.a 6 (.mv kF)]) .ret) .skip))))))) (.ops [.a 38 (.mv (.t 9)), .a 39 (.bin .add (.t 38) (kI
 1)), .a 9 (.mv (.t 39))])))))) (.seq (.ops (ap [.a 126 (.loadA 9 (.t 7)), .a 127 (.mv (.t 0)), .a 128 (.bin .mul (kI 2) (.t 127)), .a 129 (.bin .add
 (.t 128) (kI 2)), .a 130 (.mv (.t 0)), .a 131 (.bin .add (.t 130) (kI 1)), .a 132 (.mm false (.t 131) (kI 5)), .a 133 (.bld [jI, jI, jI, jI, jI, jI,
 (.f (.v (.string ⟨#[]⟩))), jN, jN] [(0, 1, (.t 129)), (1, 1, (kI 1)), (2, 1, (kI 99999)), (3, 1, (kI 2)), (5, 1, (.t 132))]), .a 134 (.call (kC 5) [(.t
 126), (.t 133)])] [.a 125 (.mv (.t 134)), .a 135 (.ext 0 (.t 125)), .a 136 (.ext 1 (.t 125)), .a 11 (.alloc 28 [jI, jI, jI, jI, jF, jN, jN, jN, jN]),
 .n (.store 9 (.t 11) (.t 135)), .a 12 (.mv (.t 136))])) (.seq (.ops (ap [.a 137 (.call (kC 7) [])] (ap [.a 138 (.mv (.t 137)), .g (some 139) (.mv (.t
 8)) 138 true] (ap [.g (some 140) (.bin .eql (.t 139) (kI 0)) 138 true] (ap [.a 141 (.pick (.t 138) (.t 140) kF), .a 142 (.mv (.t 141)), .g (some 143)
 (.loadA 9 (.t 7)) 142 true] (ap [.g (some 144) (.call (kC 8) [(.t 143)]) 142 true] (ap [.g (some 145) (.bin .eql (.t 144) (kI 10)) 142 true] (ap [.a
 146 (.pick (.t 142) (.t 145) kF), .a 147 (.mv (.t 146)), .g (some 148) (.mv (.t 12)) 147 true] (ap [.g (some 149) (.bin .eql (.t 148) (kI 4)) 147 true]
 [.a 150 (.pick (.t 147) (.t 149) kF), .a 6 (.mv (.t 150))]))))))))) .ret))))))))
theorem fn_law_StateTries : Fn Try.prog 3 151 [.t 6] s_law_StateTries := .of Try.func3 (by kernel_rfl)

/-- cutover.cutoverlaw12.known -/
def s_law_known : SCode :=
  (.seq (.ops [.a 0 (.mv kF)]) (.seq (.ops (ap [.a 4 (.bld [jN, jI, jI] [(1, 1, (kI 1)), (2, 1, (kI 5))]), .a 5 (.bsl 34 3 1 [jN, jI, jI] [(0, (.t 4))]),
 .a 6 (.bld [jI, jI, jI, jI, jI, jI, (.f (.v (.string ⟨#[]⟩))), jN, jN] [(0, 1, (kI 1)), (1, 1, (kI 1)), (3, 1, (kI 1)), (8, 1, (.t 5))]), .a 7 (.bld
 [jI, jI, jI, jI, jI, jI, (.f (.v (.string ⟨#[]⟩))), jN, jN] [(0, 1, (kI 2)), (1, 1, (kI 1)), (3, 1, (kI 2)), (5, 1, (kI 1))]), .a 8 (.bld [jI, jI, jI,
 jI, jI, jI, (.f (.v (.string ⟨#[]⟩))), jN, jN] [(0, 1, (kI 3)), (1, 1, (kI 1)), (3, 1, (kI 3)), (5, 1, (kI 1))]), .a 9 (.bsl 37 9 3 [jI, jI, jI, jI,
 jI, jI, (.f (.v (.string ⟨#[]⟩))), jN, jN, jI, jI, jI, jI, jI, jI, (.f (.v (.string ⟨#[]⟩))), jN, jN, jI, jI, jI, jI, jI, jI, (.f (.v (.string
 ⟨#[]⟩))), jN, jN] [(0, (.t 6)), (9, (.t 7)), (18, (.t 8))]), .a 10 (.call (kC 12) [(.t 9)])] [.a 3 (.mv (.t 10)), .a 11 (.ext 0 (.t 3)), .a 12 (.ext 1
 (.t 3)), .a 1 (.alloc 28 [jI, jI, jI, jI, jF, jN, jN, jN, jN]), .n (.store 9 (.t 1) (.t 11)), .a 2 (.mv (.t 12))])) (.seq (.ops (ap [.a 13 (.mv (.t
 2)), .a 14 (.bin .eql (.t 13) (kI 0))] (ap [.a 15 (.mv (.t 14)), .g (some 16) (.loadA 9 (.t 1)) 15 true] (ap [.g (some 17) (.call (kC 8) [(.t 16)]) 15
 true] (ap [.g (some 18) (.bin .eql (.t 17) (kI 9)) 15 true] (ap [.a 19 (.pick (.t 15) (.t 18) kF), .a 20 (.mv (.t 19)), .g (some 21) (.off 6 (.t 1)) 20
 true] (ap [.g (some 22) (.load1 (.t 21)) 20 true, .g (some 23) (.slen (.t 22)) 20 true, .g (some 24) (.bin .eql (.t 23) (kI 1)) 20 true] (ap [.a 25
 (.pick (.t 20) (.t 24) kF), .a 26 (.mv (.t 25)), .g (some 27) (.off 6 (.t 1)) 26 true] (ap [.g (some 28) (.load1 (.t 27)) 26 true, .g (some 29) (.idx 4
 (.t 28) (kI 0)) 26 true, .g (some 30) (.off 0 (.t 29)) 26 true, .g (some 31) (.load1 (.t 30)) 26 true, .g (some 32) (.bin .eql (.t 31) (kI 2)) 26 true]
 (ap [.a 33 (.pick (.t 26) (.t 32) kF), .a 34 (.mv (.t 33)), .g (some 35) (.off 0 (.t 1)) 34 true] (ap [.g (some 36) (.load1 (.t 35)) 34 true, .g (some
 37) (.bin .eql (.t 36) (kI 3)) 34 true] [.a 38 (.pick (.t 34) (.t 37) kF), .a 0 (.mv (.t 38))]))))))))))) .ret)))
theorem fn_law_known : Fn Try.prog 7 39 [.t 0] s_law_known := .of Try.func7 (by kernel_rfl)

end Go.Proofs.Ytgbbpelfpagdoaa.Mir

/- Chapter 12's example; Pick by itself. -/
namespace Go.Proofs.Ytgbbpelfpagdoaa.Mir
open Go Go.RowKit

theorem stEx_run : isTrue (runF Try.prog noExt 60 7 [] []) = true := by kernel_rfl
theorem c_st_known : Con Try.prog 7 [] [] fun r H' => r = D.bool true ∧ H' = [] :=
  (Con.run good (noExt_ok _) fn_law_known.has (isTrue_eq (by rw [← runF_eq]; exact stEx_run))).mono fun _ _ h => h
instance {H : List Row} {K : D → List Row → Prop} : Wa (callW Try.prog (.fn 7 []) [] H K) (K (.f (.v (.bool true))) H) := ⟨fun h => callW_pure c_st_known rfl rfl rfl h⟩
instance {H : List Row} {K : Bool → D → List Row → Prop} : Wa (callDr Try.prog (.fn 7 []) [] H K) (K true (.f (.v (.bool true))) H) := ⟨fun h => callDr_pure c_st_known rfl rfl rfl h⟩
instance {x n : Int} {H : List Row} {K : D → List Row → Prop} : Wa (callW Try.prog (.fn 4 []) [.f (.v (.int .i64 x)), .f (.v (.int .i64 n))] H K) ((0 < n ∧ n ≤ 1000000) ∧ K (.f (.v (.int .i64 (pick x n)))) H) := ⟨fun h => callW_pure (c_hand_Pick x n h.1.1 h.1.2) rfl rfl rfl h.2⟩
instance {x n : Int} {H : List Row} {K : Bool → D → List Row → Prop} : Wa (callDr Try.prog (.fn 4 []) [.f (.v (.int .i64 x)), .f (.v (.int .i64 n))] H K) ((0 < n ∧ n ≤ 1000000) ∧ K true (.f (.v (.int .i64 (pick x n)))) H) := ⟨fun h => callDr_pure (c_hand_Pick x n h.1.1 h.1.2) rfl rfl rfl h.2⟩
end Go.Proofs.Ytgbbpelfpagdoaa.Mir

/- Live rows laid down for good as a call is handed them; less told of what is handed over. -/
namespace Go.Proofs.Ytgbbpelfpagdoaa.Mir
open Go Go.RowKit
set_option linter.unusedVariables false

def layV (V : List Nat) (H : List Row) : List Row := V.foldr (fun r H => H.set r .dead) H
theorem layV_len : ∀ (V : List Nat) (H : List Row), (layV V H).length = H.length
  | [], _ => rfl
  | v :: V, H => by rw [layV, List.foldr_cons, List.length_set]; exact layV_len V H
theorem layV_get : ∀ (V : List Nat) (H : List Row) (x : Nat), (layV V H)[x]? = if x ∈ V then (H[x]?).map fun _ => Row.dead else H[x]?
  | [], H, x => by simp [layV]
  | v :: V, H, x => by
    have ih := layV_get V H x
    have hl := layV_len V H
    rw [layV, List.foldr_cons]
    unfold layV at ih hl
    rw [List.getElem?_set, ih, hl]
    by_cases hv : v = x
    · subst hv
      rw [if_pos rfl, if_pos List.mem_cons_self]
      by_cases hx : v < H.length
      · rw [if_pos hx, List.getElem?_eq_getElem hx]; rfl
      · rw [if_neg hx, List.getElem?_eq_none (by omega)]; rfl
    · rw [if_neg hv]
      by_cases hm : x ∈ V
      · rw [if_pos hm, if_pos (List.mem_cons_of_mem _ hm)]
      · rw [if_neg hm, if_neg (fun e => (List.mem_cons.1 e).elim (fun e => hv e.symm) hm)]
section
variable {P : Program} {w : World} {φ : Nat → Nat × Nat} {X : Nat → Prop} {H : List Row}
theorem HR.shed (h : HR P w φ X H) (r : Nat) : HR P w φ X (H.set r .dead) := by
  by_cases hr : r < H.length
  · exact (h.turn (row' := .dead) (List.getElem?_eq_getElem hr) (Keep.refl _ w) (by simp [Row.live]) (fun _ => trivial)).1
  · rw [List.set_eq_of_length_le (by omega)]; exact h
theorem HR.lay (h : HR P w φ X H) : ∀ V : List Nat, HR P w φ X (layV V H)
  | [] => h
  | v :: V => (HR.lay h V).shed v
theorem lay_live {V : List Nat} {b : Nat} : Live φ (layV V H) b → Live φ H b := by
  rintro ⟨r, row, hx, hl, rfl⟩
  rw [layV_get] at hx
  split at hx
  · rw [Option.map_eq_some_iff] at hx
    obtain ⟨_, _, rfl⟩ := hx
    simp [Row.live] at hl
  · exact ⟨r, row, hx, hl, rfl⟩
theorem Con.lay {f : FuncId} {args args0 : List D} {Q : D → List Row → Prop} (V : List Nat) (hv : Vws (maskV V H) args args0) (h : Con P f args0 (layV V H) Q) : Con P f args H Q := by
  refine ⟨h.1, fun w φ X vs hH hvs => ?_⟩
  have hM : HR P w φ (Rest X φ H (maskV V H)) (maskV V H) := hH.part (S := fun r => r < H.length) (fun r h => by rw [maskV_len]; exact h) (fun x row hx => by
    rcases maskV_get hx with rfl | ⟨h1, _⟩
    · exact .inl rfl
    · exact .inr ⟨h1, (hH.rows x row h1).isLow⟩)
  have hA : ∀ b, Av X φ (layV V H) b → Rest X φ H (maskV V H) b := by
    rintro b (hb | ⟨r, row, hx, hl, rfl⟩)
    · exact .inl hb
    · rw [layV_get] at hx
      split at hx
      · rw [Option.map_eq_some_iff] at hx
        obtain ⟨_, _, rfl⟩ := hx
        simp [Row.live] at hl
      · rename_i hV
        refine .inr ⟨r, row, hx, hl, fun e => ?_, rfl⟩
        rcases maskV_get e with rfl | ⟨_, h⟩
        · simp [Row.live] at hl
        · exact hV h
  have h1 : Rs P w φ (Av X φ (layV V H)) (layV V H).length args0 vs.toList := by
    refine ⟨hvs.1.trans hv.len, fun i d0 u hd0 hu => ?_⟩
    have hi : i < args.length := by rw [hv.len]; exact (List.getElem?_eq_some_iff.1 hd0).1
    have hd : args[i]? = some args[i] := List.getElem?_eq_getElem hi
    have h4 := hvs.2 i _ u hd hu
    have h5 : R P w φ (Av (Rest X φ H (maskV V H)) φ (maskV V H)) (maskV V H).length args[i] u := by
      rw [maskV_len]
      refine h4.lower (S := fun r => r < H.length) (fun r h => ⟨rfl, h⟩) (fun b hb => ?_) h4.isLow
      rcases hb with (hb | ⟨x, row, hx, hl, _, rfl⟩) | ⟨x, row, hx, hl, rfl⟩
      · exact .inl hb
      · exact .inr ⟨x, row, hx, hl, rfl⟩
      · rcases maskV_get hx with rfl | ⟨h1, _⟩
        · simp [Row.live] at hl
        · exact .inr ⟨x, row, h1, hl, rfl⟩
    exact ((hv.get i _ d0 hd hd0).ok (φ' := φ) hM hA u h5).upper (Nat.zero_le _)
  refine (h.2 w φ X vs (hH.lay V) h1).mono ?_
  rintro en w' ⟨v, d, H', h1, h2, φ', ho, hh, hd⟩
  refine ⟨v, d, H', h1, h2, φ', ⟨?_, ?_, ho.keep.mono (fun b _ hb => lay_live hb), fun b hb => ?_⟩, hh, hd⟩
  · have := ho.len; rw [layV_len] at this; exact this
  · intro s hs; exact ho.same s (by rw [layV_len]; exact hs)
  · exact (ho.fresh b hb).imp lay_live id
theorem callW_lay {g : FuncId} {args args0 : List D} {K : D → List Row → Prop} (V : List Nat) (hv : Vws (maskV V H) args args0) (h : callW P (.fn g []) args0 (layV V H) K) : callW P (.fn g []) args H K := by
  obtain ⟨g', caps', e, hc⟩ := h
  injection e with e1 e2
  subst e1; subst e2
  rw [List.append_nil] at hc
  exact ⟨g, [], rfl, by rw [List.append_nil]; exact hc.lay V hv⟩
end
/-- Less is told of what lies still. -/
inductive WF : F → F → Prop
  | refl {x : F} : WF x x
  | ns : WF (.v (.slice none 0 0)) (.s [] 0)
  | es : WF .e (.s [] 0)
  | s {xs ys : List F} {n : Nat} : xs.length = ys.length → (∀ (i : Nat) (x y : F), xs[i]? = some x → ys[i]? = some y → WF x y) → WF (.s xs n) (.s ys n)
theorem WF.ok {w : World} {A : Nat → Prop} {x y : F} (h : WF x y) : ∀ {u : Value}, RF w A x u → RF w A y u := by
  induction h with
  | refl => exact fun h => h
  | ns => intro u hr; cases hr with | v _ => exact .s0
  | es =>
    intro u hr
    cases hr with
    | @e a =>
    cases a with
    | none => exact .s0
    | some a => exact .s [] (Nat.le_refl _) rfl (fun i u hu => by simp at hu) (fun i x u hx => by simp at hx)
  | @s xs ys n hl hw ih =>
    intro u hr
    cases hr with
    | s cs h1 h2 h3 h4 =>
      refine .s cs h1 (h2.trans hl) h3 (fun i y u hy hu => ?_)
      have hi : i < xs.length := by rw [hl]; exact (List.getElem?_eq_some_iff.1 hy).1
      have hx : xs[i]? = some xs[i] := List.getElem?_eq_getElem hi
      exact ih i _ y hx hy (h4 i _ u hx hu)
    | s0 =>
      obtain rfl : ys = [] := List.eq_nil_of_length_eq_zero (by simpa using hl.symm)
      exact .s0
inductive WFs : List F → List F → Prop
  | nil : WFs [] []
  | refl {xs : List F} : WFs xs xs
  | cons {x y : F} {xs ys : List F} : WF x y → WFs xs ys → WFs (x :: xs) (y :: ys)
theorem WFs.at {xs ys : List F} (h : WFs xs ys) : xs.length = ys.length ∧ ∀ (i : Nat) (x y : F), xs[i]? = some x → ys[i]? = some y → WF x y := by
  induction h with
  | nil => exact ⟨rfl, fun i x y h => by simp at h⟩
  | refl => exact ⟨rfl, fun i x y h k => by rw [h] at k; cases k; exact .refl⟩
  | cons h1 _ ih =>
    refine ⟨by simp [ih.1], fun i x y hx hy => ?_⟩
    cases i with
    | zero => simp at hx hy; subst hx; subst hy; exact h1
    | succ i => exact ih.2 i x y (by simpa using hx) (by simpa using hy)
theorem WF.ls {xs ys : List F} {n : Nat} (h : WFs xs ys) : WF (.s xs n) (.s ys n) := .s h.at.1 h.at.2
inductive WD : D → D → Prop
  | refl {d : D} : WD d d
  | f {x y : F} : WF x y → WD (.f x) (.f y)
  | ag {ds es : List D} : ds.length = es.length → (∀ (i : Nat) (d e : D), ds[i]? = some d → es[i]? = some e → WD d e) → WD (.ag ds) (.ag es)
theorem WD.ok {P : Program} {w : World} {φ : Nat → Nat × Nat} {A : Nat → Prop} {N : Nat} {d d' : D} (h : WD d d') : ∀ {u : Value}, R P w φ A N d u → R P w φ A N d' u := by
  induction h with
  | refl => exact fun h => h
  | f h => intro u hr; cases hr with | f hr => exact .f (h.ok hr)
  | @ag ds es hl hw ih =>
    intro u hr
    cases hr with
    | ag hs hr h1 =>
      refine .ag (by rw [hs, hl]) (fun i d' u hd hu => ?_) h1
      have hi : i < ds.length := by rw [hl]; exact (List.getElem?_eq_some_iff.1 hd).1
      have hx : ds[i]? = some ds[i] := List.getElem?_eq_getElem hi
      exact ih i _ d' hx hd (hr i _ u hx hu)
inductive WDs : List D → List D → Prop
  | nil : WDs [] []
  | cons {x y : D} {xs ys : List D} : WD x y → WDs xs ys → WDs (x :: xs) (y :: ys)
theorem WDs.at {xs ys : List D} (h : WDs xs ys) : xs.length = ys.length ∧ ∀ (i : Nat) (x y : D), xs[i]? = some x → ys[i]? = some y → WD x y := by
  induction h with
  | nil => exact ⟨rfl, fun i x y h => by simp at h⟩
  | cons h1 _ ih =>
    refine ⟨by simp [ih.1], fun i x y hx hy => ?_⟩
    cases i with
    | zero => simp at hx hy; subst hx; subst hy; exact h1
    | succ i => exact ih.2 i x y (by simpa using hx) (by simpa using hy)
theorem WD.ags {ds es : List D} (h : WDs ds es) : WD (.ag ds) (.ag es) := .ag h.at.1 h.at.2
theorem Con.less {P : Program} {f : FuncId} {args args' : List D} {H : List Row} {Q : D → List Row → Prop} (h : Con P f args H Q) (ha : WDs args' args) : Con P f args' H Q :=
  ⟨h.1, fun w φ X vs hH hv => h.2 w φ X vs hH ⟨hv.1.trans ha.at.1, fun i d' u hd hu => by
    have hi : i < args'.length := by rw [ha.at.1]; exact (List.getElem?_eq_some_iff.1 hd).1
    have hx : args'[i]? = some args'[i] := List.getElem?_eq_getElem hi
    exact (ha.at.2 i _ d' hx hd).ok (hv.2 i _ u hx hu)⟩⟩
theorem callW_less {P : Program} {g : FuncId} {args args0 : List D} {H : List Row} {K : D → List Row → Prop} (h : callW P (.fn g []) args0 H K) (ha : WDs args args0) : callW P (.fn g []) args H K := by
  obtain ⟨g', caps', e, hc⟩ := h
  injection e with e1 e2
  subst e1; subst e2
  rw [List.append_nil] at hc
  exact ⟨g, [], rfl, by rw [List.append_nil]; exact hc.less ha⟩
end Go.Proofs.Ytgbbpelfpagdoaa.Mir
