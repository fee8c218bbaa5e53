/- Texts laid into one file: RefC. -/
import Derived.Test.YtjbkckhpoicaeaaDt12

set_option linter.unusedVariables false
set_option linter.unusedSimpArgs false
/- The document's graphs: Depth, Ahead. -/
namespace Go.Proofs.Ytjbkckhpoicaeaa.Mir
open Go Go.RowKit
set_option linter.unusedVariables false
set_option linter.unusedSimpArgs false
set_option maxHeartbeats 2000000

set_option maxRecDepth 100000 in
theorem c_ref_Depth (ds : List Nd) (hf : Fit ds) : Con Try.prog 38 [.f (fG ds)] [] fun r H' => r = D.int (depthL ds) ∧ H' = [] := by
  refine Con.walk good fn_ref_Depth (by simp) ?_
  unfold s_ref_Depth
  simp only [argsE, List.length_cons, List.length_nil, Nat.reduceAdd]
  repeat' (first | (with_reducible first | refine r1 ?_ | refine rK fun K hK => ?_ | refine wpS_app fun K hK => ?_ | (refine hK _ ?_; clear hK K) | refine rL fun K hK => ?_) | ((with_reducible refine And.intro (Chk.mk' ?_) ?_); kernel_rfl) | ((with_reducible refine HS.cond1 ?_ ?_); rfl) | ((with_reducible refine HS.cond0 ?_ ?_); rfl) | ((with_reducible apply HS.condB) <;> first | rfl | (with_reducible intro h)) | (with_reducible first | refine r2 ?_ | refine r3 ?_ | refine r4 ?_ | refine r5 ?_ | refine r6 ?_ | refine r7 ?_ | refine r8 ?_ | refine r9 ?_ | refine rA ?_ | refine rB ?_ | refine rC ?_ | refine rD ?_) | ((with_reducible refine blockQ_miss ?_ ?_); rfl) | (with_reducible refine Two.mk' (fun h => ?_) (fun h => ?_) <;> try (exfalso; omega)) | ((with_reducible refine Bsel.mk' (fun h => ?_) (fun h => ?_)) <;> (try simp only [h])) | ((fail_if_success (with_reducible first | refine s1 ?_ | refine s2 ?_ | refine s3 ?_ | refine s4 ?_ | refine s5 ?_ | refine s6 ?_ | refine s7 ?_ | refine s8 ?_ | refine s9 ?_)); simp (disch := omega) only [↓LD, LU, LS, LT, loadA_rf, ↓reduceIte, reduceCtorEq, Nat.reduceAdd, Nat.reduceMul, Nat.reduceSub, Nat.reduceLeDiff, Nat.reduceLT, Nat.reduceEqDiff, Int.reduceNeg, Int.reduceLT, Int.reduceLE, Int.reduceEq, Int.reduceToNat]) | ((with_reducible refine And.intro ?_ ?_); omega) | ((fail_if_success (with_reducible first | refine s1 ?_ | refine s2 ?_ | refine s3 ?_ | refine s4 ?_ | refine s5 ?_ | refine s6 ?_ | refine s7 ?_ | refine s8 ?_ | refine s9 ?_)); simp only [D.int, D.bool]))
  refine callW_self (c_ref_Order ds hf) ?_
  rintro _ _ ⟨rfl, rfl⟩
  by_cases hc : checkL ds = 0
  · obtain ⟨hn1, hn8, _, hol⟩ := check_in hc
    have hdl : depthL ds = maxL (deepL ds) := if_pos hc
    have hlen := order_len hc
    have hin := order_in (ds := ds)
    have hnd := topo_nodup (order_topo ds)
    have hdf : deepL ds = (orderL ds).foldl (deepS ds) (List.replicate ds.length 0) := rfl
    rw [if_pos hc, decide_eq_true hc]
    generalize orderL ds = o at hlen hin hnd hdf hol
    repeat' (first | (with_reducible first | refine r1 ?_ | refine rK fun K hK => ?_ | refine wpS_app fun K hK => ?_ | (refine hK _ ?_; clear hK K) | refine rL fun K hK => ?_) | ((with_reducible refine And.intro (Chk.mk' ?_) ?_); kernel_rfl) | ((with_reducible refine HS.cond1 ?_ ?_); rfl) | ((with_reducible refine HS.cond0 ?_ ?_); rfl) | ((with_reducible apply HS.condB) <;> first | rfl | (with_reducible intro h)) | (with_reducible first | refine r2 ?_ | refine r3 ?_ | refine r4 ?_ | refine r5 ?_ | refine r6 ?_ | refine r7 ?_ | refine r8 ?_ | refine r9 ?_ | refine rA ?_ | refine rB ?_ | refine rC ?_ | refine rD ?_) | ((with_reducible refine blockQ_miss ?_ ?_); rfl) | (with_reducible refine Two.mk' (fun h => ?_) (fun h => ?_) <;> try (exfalso; omega)) | ((with_reducible refine Bsel.mk' (fun h => ?_) (fun h => ?_)) <;> (try simp only [h])) | ((fail_if_success (with_reducible first | refine s1 ?_ | refine s2 ?_ | refine s3 ?_ | refine s4 ?_ | refine s5 ?_ | refine s6 ?_ | refine s7 ?_ | refine s8 ?_ | refine s9 ?_)); simp (disch := omega) only [↓LD, LU, LS, LT, loadA_rf, ↓reduceIte, reduceCtorEq, Nat.reduceAdd, Nat.reduceMul, Nat.reduceSub, Nat.reduceLeDiff, Nat.reduceLT, Nat.reduceEqDiff, Int.reduceNeg, Int.reduceLT, Int.reduceLE, Int.reduceEq, Int.reduceToNat, fG, fI, List.append_nil]) | ((with_reducible refine And.intro ?_ ?_); omega) | ((fail_if_success (with_reducible first | refine s1 ?_ | refine s2 ?_ | refine s3 ?_ | refine s4 ?_ | refine s5 ?_ | refine s6 ?_ | refine s7 ?_ | refine s8 ?_ | refine s9 ?_)); simp only [D.int, D.bool]))
    rw [mk_ints]
    refine HS.loopG [0, 3, 5, 6, 7] (fun x : Nat × List Int × Int => ⟨frm 68 [(0, .f (fG ds)), (3, .f (fI o)), (5, .sl 0 0 ds.length), (6, D.int x.2.2), (7, D.int x.1)], [.data 3 (x.2.1.map iF)], []⟩)
      (fun x => x.1 ≤ o.length ∧ Dp ds.length x.1 x.2.1 ∧ deepL ds = (o.drop x.1).foldl (deepS ds) x.2.1 ∧ (∀ j : Nat, j < ds.length → (j : Int) ∉ o.take x.1 → gt x.2.1 j = 0) ∧ x.2.2 = mxF 0 x.2.1 ∧ x.2.2 ≤ x.1) (fun x => o.length - x.1) (0, List.replicate ds.length 0, 0) (by kernel_rfl)
      ⟨Nat.zero_le _, zero_dp _, hdf, fun j hj _ => by dsimp only; rw [gt_eq (by simpa using hj)]; simp, ?_, by simp⟩ ?_
    · dsimp only
      have := mxF_le (List.replicate ds.length 0) 0 (Int.le_refl 0) fun x hx => by rw [List.eq_of_mem_replicate hx]; omega
      have := (mxF_ge (List.replicate ds.length 0) 0).1
      omega
    rintro ⟨i, deep, most⟩ ⟨hi, hd, hr, hz, hm, hmi⟩
    dsimp only at hi hd hr hz hm hmi
    by_cases hil : i < o.length
    · have hk := hin _ (gt_mem hil)
      obtain ⟨k, hkn⟩ := Int.eq_ofNat_of_zero_le hk.1
      have hkl : k < ds.length := by omega
      have hkt : (gt o i).toNat = k := by omega
      have hns := needs_in (check_needs hc (gt_mem hkl))
      have hnl := hf.2 _ (gt_mem hkl)
      have hk0 := hz k hkl fun hx => by
        obtain ⟨j, hj, e⟩ := List.mem_iff_getElem.1 hx
        rw [List.length_take] at hj
        rw [List.getElem_take, ← hkn, gt_eq hil] at e
        have := (List.getElem_inj (h₀ := by omega) (h₁ := hil) hnd).1 e
        omega
      have hdk : k < deep.length := by rw [hd.1]; exact hkl
      have hst := deepS_R (ds := ds) hdk hk0
      have hmx := mxF_set (v := mxR deep 0 (gt ds k).ns + 1) hdk hk0
      have hri := mxR_in hd (gt ds k).ns 0 ⟨Int.le_refl _, by omega⟩ hns
      rw [drop_gt hil, List.foldl_cons, hkn, hst] at hr
      generalize hN : (gt ds k).ns = ns at hns hst hmx hri hnl hr
      repeat' (first | (with_reducible first | refine r1 ?_ | refine rK fun K hK => ?_ | refine wpS_app fun K hK => ?_ | (refine hK _ ?_; clear hK K) | refine rL fun K hK => ?_) | ((with_reducible refine And.intro (Chk.mk' ?_) ?_); kernel_rfl) | ((with_reducible refine HS.cond1 ?_ ?_); rfl) | ((with_reducible refine HS.cond0 ?_ ?_); rfl) | ((with_reducible apply HS.condB) <;> first | rfl | (with_reducible intro h)) | (with_reducible first | refine r2 ?_ | refine r3 ?_ | refine r4 ?_ | refine r5 ?_ | refine r6 ?_ | refine r7 ?_ | refine r8 ?_ | refine r9 ?_ | refine rA ?_ | refine rB ?_ | refine rC ?_ | refine rD ?_) | ((with_reducible refine blockQ_miss ?_ ?_); rfl) | (with_reducible refine Two.mk' (fun h => ?_) (fun h => ?_) <;> try (exfalso; omega)) | ((with_reducible refine Bsel.mk' (fun h => ?_) (fun h => ?_)) <;> (try simp only [h])) | ((fail_if_success (with_reducible first | refine s1 ?_ | refine s2 ?_ | refine s3 ?_ | refine s4 ?_ | refine s5 ?_ | refine s6 ?_ | refine s7 ?_ | refine s8 ?_ | refine s9 ?_)); simp (disch := omega) only [↓LD, LU, LS, LT, loadA_rf, ↓reduceIte, reduceCtorEq, Nat.reduceAdd, Nat.reduceMul, Nat.reduceSub, Nat.reduceLeDiff, Nat.reduceLT, Nat.reduceEqDiff, Int.reduceNeg, Int.reduceLT, Int.reduceLE, Int.reduceEq, Int.reduceToNat, fG, fI]) | ((with_reducible refine And.intro ?_ ?_); omega) | ((fail_if_success (with_reducible first | refine s1 ?_ | refine s2 ?_ | refine s3 ?_ | refine s4 ?_ | refine s5 ?_ | refine s6 ?_ | refine s7 ?_ | refine s8 ?_ | refine s9 ?_)); simp only [D.int, D.bool]))
      refine HS.loopG [0, 3, 5, 6, 7, 8, 9] (fun x : Nat × Int => ⟨frm 68 [(0, .f (fG ds)), (3, .f (fI o)), (5, .sl 0 0 ds.length), (6, D.int most), (7, D.int i), (8, D.int x.2), (9, D.int x.1)], [.data 3 (deep.map iF)], []⟩)
        (fun x => x.1 ≤ ns.length ∧ mxR deep 0 ns = mxR deep x.2 (ns.drop x.1) ∧ 0 ≤ x.2 ∧ x.2 ≤ i) (fun x => ns.length - x.1) (0, 0) (by kernel_rfl) ⟨Nat.zero_le _, rfl, by simp, by dsimp only; omega⟩ ?_
      rintro ⟨j, d⟩ ⟨hj, hmr, hd0, hdi⟩
      dsimp only at hj hmr hd0 hdi
      by_cases hjl : j < ns.length
      · have hnj := hns _ (gt_mem hjl)
        have hen := hd.at (k := (gt ns j).toNat) (by omega)
        rw [drop_gt hjl, mxR] at hmr
        have hd1 := hd.1
        repeat' (first | (with_reducible first | refine r1 ?_ | refine rK fun K hK => ?_ | refine wpS_app fun K hK => ?_ | (refine hK _ ?_; clear hK K) | refine rL fun K hK => ?_) | ((with_reducible refine And.intro (Chk.mk' ?_) ?_); kernel_rfl) | ((with_reducible refine HS.cond1 ?_ ?_); rfl) | ((with_reducible refine HS.cond0 ?_ ?_); rfl) | ((with_reducible apply HS.condB) <;> first | rfl | (with_reducible intro h)) | (with_reducible first | refine r2 ?_ | refine r3 ?_ | refine r4 ?_ | refine r5 ?_ | refine r6 ?_ | refine r7 ?_ | refine r8 ?_ | refine r9 ?_ | refine rA ?_ | refine rB ?_ | refine rC ?_ | refine rD ?_) | ((with_reducible refine blockQ_miss ?_ ?_); rfl) | (with_reducible refine Two.mk' (fun h => ?_) (fun h => ?_) <;> try (exfalso; omega)) | ((with_reducible refine Bsel.mk' (fun h => ?_) (fun h => ?_)) <;> (try simp only [h])) | ((fail_if_success (with_reducible first | refine s1 ?_ | refine s2 ?_ | refine s3 ?_ | refine s4 ?_ | refine s5 ?_ | refine s6 ?_ | refine s7 ?_ | refine s8 ?_ | refine s9 ?_)); simp (disch := omega) only [↓LD, LU, LS, LT, loadA_rf, ↓reduceIte, reduceCtorEq, Nat.reduceAdd, Nat.reduceMul, Nat.reduceSub, Nat.reduceLeDiff, Nat.reduceLT, Nat.reduceEqDiff, Int.reduceNeg, Int.reduceLT, Int.reduceLE, Int.reduceEq, Int.reduceToNat, fG, fI, nd_at0, hkn, hN]) | ((with_reducible refine And.intro ?_ ?_); omega) | ((fail_if_success (with_reducible first | refine s1 ?_ | refine s2 ?_ | refine s3 ?_ | refine s4 ?_ | refine s5 ?_ | refine s6 ?_ | refine s7 ?_ | refine s8 ?_ | refine s9 ?_)); simp only [D.int, D.bool]))
        exact Next.mk (j + 1, max d (gt deep (gt ns j).toNat)) (by kernel_rfl) ⟨by dsimp only; omega, hmr, by dsimp only; omega, by dsimp only; omega⟩ (by dsimp only; omega)
      · rw [List.drop_of_length_le (by omega), mxR] at hmr
        subst hmr
        have hd1 := hd.1
        repeat' (first | (with_reducible first | refine r1 ?_ | refine rK fun K hK => ?_ | refine wpS_app fun K hK => ?_ | (refine hK _ ?_; clear hK K) | refine rL fun K hK => ?_) | ((with_reducible refine And.intro (Chk.mk' ?_) ?_); kernel_rfl) | ((with_reducible refine HS.cond1 ?_ ?_); rfl) | ((with_reducible refine HS.cond0 ?_ ?_); rfl) | ((with_reducible apply HS.condB) <;> first | rfl | (with_reducible intro h)) | (with_reducible first | refine r2 ?_ | refine r3 ?_ | refine r4 ?_ | refine r5 ?_ | refine r6 ?_ | refine r7 ?_ | refine r8 ?_ | refine r9 ?_ | refine rA ?_ | refine rB ?_ | refine rC ?_ | refine rD ?_) | ((with_reducible refine blockQ_miss ?_ ?_); rfl) | (with_reducible refine Two.mk' (fun h => ?_) (fun h => ?_) <;> try (exfalso; omega)) | ((with_reducible refine Bsel.mk' (fun h => ?_) (fun h => ?_)) <;> (try simp only [h])) | ((fail_if_success (with_reducible first | refine s1 ?_ | refine s2 ?_ | refine s3 ?_ | refine s4 ?_ | refine s5 ?_ | refine s6 ?_ | refine s7 ?_ | refine s8 ?_ | refine s9 ?_)); simp (disch := omega) only [↓LD, LU, LS, LT, loadA_rf, ↓reduceIte, reduceCtorEq, Nat.reduceAdd, Nat.reduceMul, Nat.reduceSub, Nat.reduceLeDiff, Nat.reduceLT, Nat.reduceEqDiff, Int.reduceNeg, Int.reduceLT, Int.reduceLE, Int.reduceEq, Int.reduceToNat, fG, fI, nd_at0, hkn, hN, set_map_i]) | ((with_reducible refine And.intro ?_ ?_); omega) | ((fail_if_success (with_reducible first | refine s1 ?_ | refine s2 ?_ | refine s3 ?_ | refine s4 ?_ | refine s5 ?_ | refine s6 ?_ | refine s7 ?_ | refine s8 ?_ | refine s9 ?_)); simp only [D.int, D.bool]))
        refine Next.mk (i + 1, deep.set k (mxR deep 0 ns + 1), max most (mxR deep 0 ns + 1)) (by kernel_rfl) ⟨by dsimp only; omega, (hd.mono (by omega)).set (by omega), hr, fun j hj hjt => ?_, by dsimp only; omega, by dsimp only; omega⟩ (by dsimp only; omega)
        dsimp only at hjt ⊢
        rw [gt_set hdk]
        split
        · rename_i e
          subst e
          exact absurd (List.mem_iff_getElem.2 ⟨i, by rw [List.length_take]; omega, by rw [List.getElem_take, ← gt_eq hil, hkn]⟩) hjt
        · exact hz j hj fun hx => hjt (by rw [List.take_add_one]; exact List.mem_append_left _ hx)
    · rw [List.drop_of_length_le (by omega), List.foldl_nil] at hr
      repeat' (first | (with_reducible first | refine r1 ?_ | refine rK fun K hK => ?_ | refine wpS_app fun K hK => ?_ | (refine hK _ ?_; clear hK K) | refine rL fun K hK => ?_) | ((with_reducible refine And.intro (Chk.mk' ?_) ?_); kernel_rfl) | ((with_reducible refine HS.cond1 ?_ ?_); rfl) | ((with_reducible refine HS.cond0 ?_ ?_); rfl) | ((with_reducible apply HS.condB) <;> first | rfl | (with_reducible intro h)) | (with_reducible first | refine r2 ?_ | refine r3 ?_ | refine r4 ?_ | refine r5 ?_ | refine r6 ?_ | refine r7 ?_ | refine r8 ?_ | refine r9 ?_ | refine rA ?_ | refine rB ?_ | refine rC ?_ | refine rD ?_) | ((with_reducible refine blockQ_miss ?_ ?_); rfl) | (with_reducible refine Two.mk' (fun h => ?_) (fun h => ?_) <;> try (exfalso; omega)) | ((with_reducible refine Bsel.mk' (fun h => ?_) (fun h => ?_)) <;> (try simp only [h])) | ((fail_if_success (with_reducible first | refine s1 ?_ | refine s2 ?_ | refine s3 ?_ | refine s4 ?_ | refine s5 ?_ | refine s6 ?_ | refine s7 ?_ | refine s8 ?_ | refine s9 ?_)); simp (disch := omega) only [↓LD, LU, LS, LT, loadA_rf, ↓reduceIte, reduceCtorEq, Nat.reduceAdd, Nat.reduceMul, Nat.reduceSub, Nat.reduceLeDiff, Nat.reduceLT, Nat.reduceEqDiff, Int.reduceNeg, Int.reduceLT, Int.reduceLE, Int.reduceEq, Int.reduceToNat, fG, fI]) | ((with_reducible refine And.intro ?_ ?_); omega) | ((fail_if_success (with_reducible first | refine s1 ?_ | refine s2 ?_ | refine s3 ?_ | refine s4 ?_ | refine s5 ?_ | refine s6 ?_ | refine s7 ?_ | refine s8 ?_ | refine s9 ?_)); simp only [D.int, D.bool]))
      refine end1 rfl rfl (by kernel_rfl) .f ⟨congrArg D.int ?_, rfl⟩
      rw [hdl, hm, hr, maxL_F (fun e => by have := hd.1; rw [e] at this; simp at this; omega) fun x hx => (hd.2 x hx).1]
  · rw [if_neg hc, decide_eq_false hc]
    have h0 : depthL ds = 0 := if_neg hc
    repeat' (first | (with_reducible first | refine r1 ?_ | refine rK fun K hK => ?_ | refine wpS_app fun K hK => ?_ | (refine hK _ ?_; clear hK K) | refine rL fun K hK => ?_) | ((with_reducible refine And.intro (Chk.mk' ?_) ?_); kernel_rfl) | ((with_reducible refine HS.cond1 ?_ ?_); rfl) | ((with_reducible refine HS.cond0 ?_ ?_); rfl) | ((with_reducible apply HS.condB) <;> first | rfl | (with_reducible intro h)) | (with_reducible first | refine r2 ?_ | refine r3 ?_ | refine r4 ?_ | refine r5 ?_ | refine r6 ?_ | refine r7 ?_ | refine r8 ?_ | refine r9 ?_ | refine rA ?_ | refine rB ?_ | refine rC ?_ | refine rD ?_) | ((with_reducible refine blockQ_miss ?_ ?_); rfl) | (with_reducible refine Two.mk' (fun h => ?_) (fun h => ?_) <;> try (exfalso; omega)) | ((with_reducible refine Bsel.mk' (fun h => ?_) (fun h => ?_)) <;> (try simp only [h])) | ((fail_if_success (with_reducible first | refine s1 ?_ | refine s2 ?_ | refine s3 ?_ | refine s4 ?_ | refine s5 ?_ | refine s6 ?_ | refine s7 ?_ | refine s8 ?_ | refine s9 ?_)); simp (disch := omega) only [↓LD, LU, LS, LT, loadA_rf, ↓reduceIte, reduceCtorEq, Nat.reduceAdd, Nat.reduceMul, Nat.reduceSub, Nat.reduceLeDiff, Nat.reduceLT, Nat.reduceEqDiff, Int.reduceNeg, Int.reduceLT, Int.reduceLE, Int.reduceEq, Int.reduceToNat]) | ((with_reducible refine And.intro ?_ ?_); omega) | ((fail_if_success (with_reducible first | refine s1 ?_ | refine s2 ?_ | refine s3 ?_ | refine s4 ?_ | refine s5 ?_ | refine s6 ?_ | refine s7 ?_ | refine s8 ?_ | refine s9 ?_)); simp only [D.int, D.bool]))
    exact end1 rfl rfl (by kernel_rfl) .f ⟨by rw [h0]; rfl, rfl⟩
theorem AhI.res {ds : List Nd} (hc : checkL ds = 0) {a : Int} (ha : 0 ≤ a ∧ a < ds.length) {out : List Int} {inn : List Bool} (h : AhI ds a [] out) (hl : inn.length = ds.length) (hi : ∀ j : Nat, j < ds.length → gt inn j = decide ((j : Int) ∈ out)) :
    (rngL ds.length).filter (fun x => gt inn x.toNat) = aheadF ds a := by
  have h1 := h.ends hc ha
  refine ahead_uniq ?_ (aheadF_ok ds a)
  rw [AheadP, if_pos ⟨hc, ha⟩] at h1 ⊢
  refine ⟨(rng_pw _).filter _, fun x hx => rng_mem.1 (List.mem_filter.1 hx).1, fun x => ?_⟩
  rw [← h1.2.2 x, List.mem_filter, rng_mem, (sortL_perm out).mem_iff]
  constructor
  · rintro ⟨h2, h3⟩
    have := hi x.toNat (by omega)
    rw [h3, show ((x.toNat : Nat) : Int) = x by omega] at this
    exact of_decide_eq_true this.symm
  · intro h2
    have h3 := (h.oin x h2).2
    refine ⟨h3, ?_⟩
    rw [hi x.toNat (by omega), show ((x.toNat : Nat) : Int) = x by omega]
    exact decide_eq_true h2
set_option maxRecDepth 100000 in
theorem c_ref_Ahead (ds : List Nd) (node : Int) (hf : Fit ds) : Con Try.prog 39 [.f (fG ds), D.int node] [] fun r H' => r = .f (fI (aheadF ds node)) ∧ H' = [] := by
  refine Con.walk good fn_ref_Ahead (by simp) ?_
  unfold s_ref_Ahead
  simp only [argsE, List.length_cons, List.length_nil, Nat.reduceAdd]
  repeat' (first | (with_reducible first | refine r1 ?_ | refine rK fun K hK => ?_ | refine wpS_app fun K hK => ?_ | (refine hK _ ?_; clear hK K) | refine rL fun K hK => ?_) | ((with_reducible refine And.intro (Chk.mk' ?_) ?_); kernel_rfl) | ((with_reducible refine HS.cond1 ?_ ?_); rfl) | ((with_reducible refine HS.cond0 ?_ ?_); rfl) | ((with_reducible apply HS.condB) <;> first | rfl | (with_reducible intro h)) | (with_reducible first | refine r2 ?_ | refine r3 ?_ | refine r4 ?_ | refine r5 ?_ | refine r6 ?_ | refine r7 ?_ | refine r8 ?_ | refine r9 ?_ | refine rA ?_ | refine rB ?_ | refine rC ?_ | refine rD ?_) | ((with_reducible refine blockQ_miss ?_ ?_); rfl) | (with_reducible refine Two.mk' (fun h => ?_) (fun h => ?_) <;> try (exfalso; omega)) | ((with_reducible refine Bsel.mk' (fun h => ?_) (fun h => ?_)) <;> (try simp only [h])) | ((fail_if_success (with_reducible first | refine s1 ?_ | refine s2 ?_ | refine s3 ?_ | refine s4 ?_ | refine s5 ?_ | refine s6 ?_ | refine s7 ?_ | refine s8 ?_ | refine s9 ?_)); simp (disch := omega) only [↓LD, LU, LS, LT, loadA_rf, ↓reduceIte, reduceCtorEq, Nat.reduceAdd, Nat.reduceMul, Nat.reduceSub, Nat.reduceLeDiff, Nat.reduceLT, Nat.reduceEqDiff, Int.reduceNeg, Int.reduceLT, Int.reduceLE, Int.reduceEq, Int.reduceToNat]) | ((with_reducible refine And.intro ?_ ?_); omega) | ((fail_if_success (with_reducible first | refine s1 ?_ | refine s2 ?_ | refine s3 ?_ | refine s4 ?_ | refine s5 ?_ | refine s6 ?_ | refine s7 ?_ | refine s8 ?_ | refine s9 ?_)); simp only [D.int, D.bool]))
  refine callW_self (c_ref_Check ds hf) ?_
  rintro _ _ ⟨rfl, rfl⟩
  by_cases hok : checkL ds = 0 ∧ 0 ≤ node ∧ node < ds.length
  · obtain ⟨hc, hn0, hn1⟩ := hok
    obtain ⟨_, hn8, _, _⟩ := check_in hc
    have hkl : node.toNat < ds.length := by omega
    have hA := AhI.start hc ⟨hn0, hn1⟩
    have hnl := hf.2 _ (gt_mem hkl)
    rw [hc]
    generalize hN : (gt ds node.toNat).ns = ns0 at hA hnl
    repeat' (first | (with_reducible first | refine r1 ?_ | refine rK fun K hK => ?_ | refine wpS_app fun K hK => ?_ | (refine hK _ ?_; clear hK K) | refine rL fun K hK => ?_) | ((with_reducible refine And.intro (Chk.mk' ?_) ?_); kernel_rfl) | ((with_reducible refine HS.cond1 ?_ ?_); rfl) | ((with_reducible refine HS.cond0 ?_ ?_); rfl) | ((with_reducible apply HS.condB) <;> first | rfl | (with_reducible intro h)) | (with_reducible first | refine r2 ?_ | refine r3 ?_ | refine r4 ?_ | refine r5 ?_ | refine r6 ?_ | refine r7 ?_ | refine r8 ?_ | refine r9 ?_ | refine rA ?_ | refine rB ?_ | refine rC ?_ | refine rD ?_) | ((with_reducible refine blockQ_miss ?_ ?_); rfl) | (with_reducible refine Two.mk' (fun h => ?_) (fun h => ?_) <;> try (exfalso; omega)) | ((with_reducible refine Bsel.mk' (fun h => ?_) (fun h => ?_)) <;> (try simp only [h])) | ((fail_if_success (with_reducible first | refine s1 ?_ | refine s2 ?_ | refine s3 ?_ | refine s4 ?_ | refine s5 ?_ | refine s6 ?_ | refine s7 ?_ | refine s8 ?_ | refine s9 ?_)); simp (disch := omega) only [↓LD, LU, LS, LT, loadA_rf, ↓reduceIte, reduceCtorEq, Nat.reduceAdd, Nat.reduceMul, Nat.reduceSub, Nat.reduceLeDiff, Nat.reduceLT, Nat.reduceEqDiff, Int.reduceNeg, Int.reduceLT, Int.reduceLE, Int.reduceEq, Int.reduceToNat, fG, fI, List.append_nil, nd_load, nd_cs, nd_at0, nd_at1, nd_at2, -loadA_rf, hN]) | ((with_reducible refine And.intro ?_ ?_); omega) | ((fail_if_success (with_reducible first | refine s1 ?_ | refine s2 ?_ | refine s3 ?_ | refine s4 ?_ | refine s5 ?_ | refine s6 ?_ | refine s7 ?_ | refine s8 ?_ | refine s9 ?_)); simp only [D.int, D.bool]))
    · obtain rfl : ns0 = [] := List.eq_nil_of_length_eq_zero (by assumption)
      rw [mk_bools]
      refine HS.loopG [0, 5, 6] (fun x : List Bool × Nat × Nat × List Int × List Int => ⟨frm 73 [(0, .f (fG ds)), (5, .sl 0 0 ds.length), (6, .sl 1 x.2.1 x.2.2.1)], [.data 4 (x.1.map bF), .data 3 (x.2.2.2.1.map iF)], []⟩)
        (fun x => x.2.2.2.1.length = x.2.1 + x.2.2.1 ∧ x.1.length = ds.length ∧ AhI ds node (x.2.2.2.1.drop x.2.1) x.2.2.2.2 ∧ ∀ j : Nat, j < ds.length → gt x.1 j = decide ((j : Int) ∈ x.2.2.2.2)) (fun x => (8 - x.2.2.2.2.length) * 9 + x.2.2.1) (List.replicate ds.length false, 0, ([] : List Int).length, ([] : List Int), []) (by kernel_rfl)
        ⟨by simp, by simp, by simpa using hA, fun j hj => by dsimp only; rw [gt_rep]; simp⟩ ?_
      rintro ⟨inn, off, k, xs, out⟩ ⟨hx, hil, hI, hio⟩
      dsimp only at hx hil hI hio
      have hol := hI.len
      have hbd := hI.bound
      rw [List.length_drop] at hbd
      rcases k with _ | k
      · rw [List.drop_of_length_le (by omega)] at hI
        have hE := hI.res hc ⟨hn0, hn1⟩ hil hio
        repeat' (first | (with_reducible first | refine r1 ?_ | refine rK fun K hK => ?_ | refine wpS_app fun K hK => ?_ | (refine hK _ ?_; clear hK K) | refine rL fun K hK => ?_) | ((with_reducible refine And.intro (Chk.mk' ?_) ?_); kernel_rfl) | ((with_reducible refine HS.cond1 ?_ ?_); rfl) | ((with_reducible refine HS.cond0 ?_ ?_); rfl) | ((with_reducible apply HS.condB) <;> first | rfl | (with_reducible intro h)) | (with_reducible first | refine r2 ?_ | refine r3 ?_ | refine r4 ?_ | refine r5 ?_ | refine r6 ?_ | refine r7 ?_ | refine r8 ?_ | refine r9 ?_ | refine rA ?_ | refine rB ?_ | refine rC ?_ | refine rD ?_) | ((with_reducible refine blockQ_miss ?_ ?_); rfl) | (with_reducible refine Two.mk' (fun h => ?_) (fun h => ?_) <;> try (exfalso; omega)) | ((with_reducible refine Bsel.mk' (fun h => ?_) (fun h => ?_)) <;> (try simp only [h])) | ((fail_if_success (with_reducible first | refine s1 ?_ | refine s2 ?_ | refine s3 ?_ | refine s4 ?_ | refine s5 ?_ | refine s6 ?_ | refine s7 ?_ | refine s8 ?_ | refine s9 ?_)); simp (disch := omega) only [↓LD, LU, LS, LT, loadA_rf, ↓reduceIte, reduceCtorEq, Nat.reduceAdd, Nat.reduceMul, Nat.reduceSub, Nat.reduceLeDiff, Nat.reduceLT, Nat.reduceEqDiff, Int.reduceNeg, Int.reduceLT, Int.reduceLE, Int.reduceEq, Int.reduceToNat]) | ((with_reducible refine And.intro ?_ ?_); omega) | ((fail_if_success (with_reducible first | refine s1 ?_ | refine s2 ?_ | refine s3 ?_ | refine s4 ?_ | refine s5 ?_ | refine s6 ?_ | refine s7 ?_ | refine s8 ?_ | refine s9 ?_)); simp only [D.int, D.bool]))
        refine HS.loopG [5, 8, 9] (fun x : Nat × Nat × List Int => ⟨frm 73 [(5, .sl 0 0 ds.length), (8, (outT inn x.2.1 x.2.2).1), (9, D.int x.1)], (outT inn x.2.1 x.2.2).2, []⟩)
          (fun x => x.1 ≤ ds.length ∧ x.2.2.length = x.2.1 ∧ x.2.1 ≤ x.1 ∧ aheadF ds node = x.2.2 ++ ((rngL ds.length).drop x.1).filter (fun x => gt inn x.toNat)) (fun x => ds.length - x.1) (0, 0, []) (by kernel_rfl) ⟨Nat.zero_le _, rfl, Nat.le_refl _, hE.symm⟩ ?_
        rintro ⟨i, m, res⟩ ⟨hi, hm, hmi, hr⟩
        dsimp only at hi hm hmi hr
        by_cases hid : i < ds.length
        · rw [drop_gt (by rw [rng_len]; exact hid), rng_at hid, List.filter_cons, show ((i : Int)).toNat = i by omega] at hr
          rcases res with _ | ⟨b, l⟩
          · repeat' (first | (with_reducible first | refine r1 ?_ | refine rK fun K hK => ?_ | refine wpS_app fun K hK => ?_ | (refine hK _ ?_; clear hK K) | refine rL fun K hK => ?_) | ((with_reducible refine And.intro (Chk.mk' ?_) ?_); kernel_rfl) | ((with_reducible refine HS.cond1 ?_ ?_); rfl) | ((with_reducible refine HS.cond0 ?_ ?_); rfl) | ((with_reducible apply HS.condB) <;> first | rfl | (with_reducible intro h)) | (with_reducible first | refine r2 ?_ | refine r3 ?_ | refine r4 ?_ | refine r5 ?_ | refine r6 ?_ | refine r7 ?_ | refine r8 ?_ | refine r9 ?_ | refine rA ?_ | refine rB ?_ | refine rC ?_ | refine rD ?_) | ((with_reducible refine blockQ_miss ?_ ?_); rfl) | (with_reducible refine Two.mk' (fun h => ?_) (fun h => ?_) <;> try (exfalso; omega)) | ((with_reducible refine Bsel.mk' (fun h => ?_) (fun h => ?_)) <;> (try simp only [h])) | ((fail_if_success (with_reducible first | refine s1 ?_ | refine s2 ?_ | refine s3 ?_ | refine s4 ?_ | refine s5 ?_ | refine s6 ?_ | refine s7 ?_ | refine s8 ?_ | refine s9 ?_)); simp (disch := omega) only [↓LD, LU, LS, LT, loadA_rf, ↓reduceIte, reduceCtorEq, Nat.reduceAdd, Nat.reduceMul, Nat.reduceSub, Nat.reduceLeDiff, Nat.reduceLT, Nat.reduceEqDiff, Int.reduceNeg, Int.reduceLT, Int.reduceLE, Int.reduceEq, Int.reduceToNat, outT, List.append_nil]) | ((with_reducible refine And.intro ?_ ?_); omega) | ((fail_if_success (with_reducible first | refine s1 ?_ | refine s2 ?_ | refine s3 ?_ | refine s4 ?_ | refine s5 ?_ | refine s6 ?_ | refine s7 ?_ | refine s8 ?_ | refine s9 ?_)); simp only [D.int, D.bool]))
            · subst hm
              exact Next.mk (i + 1, 0 + 1, [] ++ [(i : Int)]) (by kernel_rfl) ⟨by dsimp only; omega, by simp, by simp at * <;> omega, by dsimp only; rw [hr, if_pos (by assumption), List.append_assoc]; rfl⟩ (by dsimp only; omega)
            · exact Next.mk (i + 1, m, []) (by kernel_rfl) ⟨by dsimp only; omega, hm, by dsimp only; omega, by dsimp only; rw [hr, if_neg (by rw [show gt inn i = false by assumption]; simp)]⟩ (by dsimp only; omega)
          · try simp only [List.length_cons] at hm
            repeat' (first | (with_reducible first | refine r1 ?_ | refine rK fun K hK => ?_ | refine wpS_app fun K hK => ?_ | (refine hK _ ?_; clear hK K) | refine rL fun K hK => ?_) | ((with_reducible refine And.intro (Chk.mk' ?_) ?_); kernel_rfl) | ((with_reducible refine HS.cond1 ?_ ?_); rfl) | ((with_reducible refine HS.cond0 ?_ ?_); rfl) | ((with_reducible apply HS.condB) <;> first | rfl | (with_reducible intro h)) | (with_reducible first | refine r2 ?_ | refine r3 ?_ | refine r4 ?_ | refine r5 ?_ | refine r6 ?_ | refine r7 ?_ | refine r8 ?_ | refine r9 ?_ | refine rA ?_ | refine rB ?_ | refine rC ?_ | refine rD ?_) | ((with_reducible refine blockQ_miss ?_ ?_); rfl) | (with_reducible refine Two.mk' (fun h => ?_) (fun h => ?_) <;> try (exfalso; omega)) | ((with_reducible refine Bsel.mk' (fun h => ?_) (fun h => ?_)) <;> (try simp only [h])) | ((fail_if_success (with_reducible first | refine s1 ?_ | refine s2 ?_ | refine s3 ?_ | refine s4 ?_ | refine s5 ?_ | refine s6 ?_ | refine s7 ?_ | refine s8 ?_ | refine s9 ?_)); simp (disch := omega) only [↓LD, LU, LS, LT, loadA_rf, ↓reduceIte, reduceCtorEq, Nat.reduceAdd, Nat.reduceMul, Nat.reduceSub, Nat.reduceLeDiff, Nat.reduceLT, Nat.reduceEqDiff, Int.reduceNeg, Int.reduceLT, Int.reduceLE, Int.reduceEq, Int.reduceToNat, outT, List.append_nil]) | ((with_reducible refine And.intro ?_ ?_); omega) | ((fail_if_success (with_reducible first | refine s1 ?_ | refine s2 ?_ | refine s3 ?_ | refine s4 ?_ | refine s5 ?_ | refine s6 ?_ | refine s7 ?_ | refine s8 ?_ | refine s9 ?_)); simp only [D.int, D.bool]))
            · subst hm
              exact Next.mk (i + 1, (l.length + 1) + 1, (b :: l) ++ [(i : Int)]) (by kernel_rfl) ⟨by dsimp only; omega, by simp, by simp at * <;> omega, by dsimp only; rw [hr, if_pos (by assumption), List.append_assoc]; rfl⟩ (by dsimp only; omega)
            · exact Next.mk (i + 1, m, (b :: l)) (by kernel_rfl) ⟨by dsimp only; omega, hm, by dsimp only; omega, by dsimp only; rw [hr, if_neg (by rw [show gt inn i = false by assumption]; simp)]⟩ (by dsimp only; omega)
        · rw [List.drop_of_length_le (by rw [rng_len]; omega), List.filter_nil, List.append_nil] at hr
          rw [hr]
          rcases res with _ | ⟨b, l⟩
          · repeat' (first | (with_reducible first | refine r1 ?_ | refine rK fun K hK => ?_ | refine wpS_app fun K hK => ?_ | (refine hK _ ?_; clear hK K) | refine rL fun K hK => ?_) | ((with_reducible refine And.intro (Chk.mk' ?_) ?_); kernel_rfl) | ((with_reducible refine HS.cond1 ?_ ?_); rfl) | ((with_reducible refine HS.cond0 ?_ ?_); rfl) | ((with_reducible apply HS.condB) <;> first | rfl | (with_reducible intro h)) | (with_reducible first | refine r2 ?_ | refine r3 ?_ | refine r4 ?_ | refine r5 ?_ | refine r6 ?_ | refine r7 ?_ | refine r8 ?_ | refine r9 ?_ | refine rA ?_ | refine rB ?_ | refine rC ?_ | refine rD ?_) | ((with_reducible refine blockQ_miss ?_ ?_); rfl) | (with_reducible refine Two.mk' (fun h => ?_) (fun h => ?_) <;> try (exfalso; omega)) | ((with_reducible refine Bsel.mk' (fun h => ?_) (fun h => ?_)) <;> (try simp only [h])) | ((fail_if_success (with_reducible first | refine s1 ?_ | refine s2 ?_ | refine s3 ?_ | refine s4 ?_ | refine s5 ?_ | refine s6 ?_ | refine s7 ?_ | refine s8 ?_ | refine s9 ?_)); simp (disch := omega) only [↓LD, LU, LS, LT, loadA_rf, ↓reduceIte, reduceCtorEq, Nat.reduceAdd, Nat.reduceMul, Nat.reduceSub, Nat.reduceLeDiff, Nat.reduceLT, Nat.reduceEqDiff, Int.reduceNeg, Int.reduceLT, Int.reduceLE, Int.reduceEq, Int.reduceToNat, outT]) | ((with_reducible refine And.intro ?_ ?_); omega) | ((fail_if_success (with_reducible first | refine s1 ?_ | refine s2 ?_ | refine s3 ?_ | refine s4 ?_ | refine s5 ?_ | refine s6 ?_ | refine s7 ?_ | refine s8 ?_ | refine s9 ?_)); simp only [D.int, D.bool]))
            exact end1 rfl rfl (by kernel_rfl) .nil ⟨rfl, rfl⟩
          · repeat' (first | (with_reducible first | refine r1 ?_ | refine rK fun K hK => ?_ | refine wpS_app fun K hK => ?_ | (refine hK _ ?_; clear hK K) | refine rL fun K hK => ?_) | ((with_reducible refine And.intro (Chk.mk' ?_) ?_); kernel_rfl) | ((with_reducible refine HS.cond1 ?_ ?_); rfl) | ((with_reducible refine HS.cond0 ?_ ?_); rfl) | ((with_reducible apply HS.condB) <;> first | rfl | (with_reducible intro h)) | (with_reducible first | refine r2 ?_ | refine r3 ?_ | refine r4 ?_ | refine r5 ?_ | refine r6 ?_ | refine r7 ?_ | refine r8 ?_ | refine r9 ?_ | refine rA ?_ | refine rB ?_ | refine rC ?_ | refine rD ?_) | ((with_reducible refine blockQ_miss ?_ ?_); rfl) | (with_reducible refine Two.mk' (fun h => ?_) (fun h => ?_) <;> try (exfalso; omega)) | ((with_reducible refine Bsel.mk' (fun h => ?_) (fun h => ?_)) <;> (try simp only [h])) | ((fail_if_success (with_reducible first | refine s1 ?_ | refine s2 ?_ | refine s3 ?_ | refine s4 ?_ | refine s5 ?_ | refine s6 ?_ | refine s7 ?_ | refine s8 ?_ | refine s9 ?_)); simp (disch := omega) only [↓LD, LU, LS, LT, loadA_rf, ↓reduceIte, reduceCtorEq, Nat.reduceAdd, Nat.reduceMul, Nat.reduceSub, Nat.reduceLeDiff, Nat.reduceLT, Nat.reduceEqDiff, Int.reduceNeg, Int.reduceLT, Int.reduceLE, Int.reduceEq, Int.reduceToNat, outT]) | ((with_reducible refine And.intro ?_ ?_); omega) | ((fail_if_success (with_reducible first | refine s1 ?_ | refine s2 ?_ | refine s3 ?_ | refine s4 ?_ | refine s5 ?_ | refine s6 ?_ | refine s7 ?_ | refine s8 ?_ | refine s9 ?_)); simp only [D.int, D.bool]))
            exact end1 rfl rfl (by kernel_rfl) (.sl rfl (fun e => by simp at hm; omega)) ⟨by rw [List.drop_zero, fI, hm]; rfl, rfl⟩
      · have hxo : off < xs.length := by omega
        rw [drop_gt hxo] at hI
        have hx0 := (hI.tin (gt xs off) (by simp)).2
        obtain ⟨_, hns8, _⟩ := ns_of hc hx0
        have hnsl := hf.2 _ (gt_mem (l := ds) (k := (gt xs off).toNat) (by omega))
        have hsk := fun h => hI.skip (x := gt xs off) (todo := xs.drop (off + 1)) (out := out) h
        have hmo := fun h => hI.more hc (x := gt xs off) (todo := xs.drop (off + 1)) (out := out) h
        have hin := hio (gt xs off).toNat (by omega)
        rw [show (((gt xs off).toNat : Nat) : Int) = gt xs off by omega] at hin
        generalize hN' : (gt ds (gt xs off).toNat).ns = ns at hns8 hnsl hmo
        have hxl : (xs.drop (off + 1)).length = k := by rw [List.length_drop]; omega
        by_cases hmem : gt xs off ∈ out
        · rw [decide_eq_true hmem] at hin
          repeat' (first | (with_reducible first | refine r1 ?_ | refine rK fun K hK => ?_ | refine wpS_app fun K hK => ?_ | (refine hK _ ?_; clear hK K) | refine rL fun K hK => ?_) | ((with_reducible refine And.intro (Chk.mk' ?_) ?_); kernel_rfl) | ((with_reducible refine HS.cond1 ?_ ?_); rfl) | ((with_reducible refine HS.cond0 ?_ ?_); rfl) | ((with_reducible apply HS.condB) <;> first | rfl | (with_reducible intro h)) | (with_reducible first | refine r2 ?_ | refine r3 ?_ | refine r4 ?_ | refine r5 ?_ | refine r6 ?_ | refine r7 ?_ | refine r8 ?_ | refine r9 ?_ | refine rA ?_ | refine rB ?_ | refine rC ?_ | refine rD ?_) | ((with_reducible refine blockQ_miss ?_ ?_); rfl) | (with_reducible refine Two.mk' (fun h => ?_) (fun h => ?_) <;> try (exfalso; omega)) | ((with_reducible refine Bsel.mk' (fun h => ?_) (fun h => ?_)) <;> (try simp only [h])) | ((fail_if_success (with_reducible first | refine s1 ?_ | refine s2 ?_ | refine s3 ?_ | refine s4 ?_ | refine s5 ?_ | refine s6 ?_ | refine s7 ?_ | refine s8 ?_ | refine s9 ?_)); simp (disch := omega) only [↓LD, LU, LS, LT, loadA_rf, ↓reduceIte, reduceCtorEq, Nat.reduceAdd, Nat.reduceMul, Nat.reduceSub, Nat.reduceLeDiff, Nat.reduceLT, Nat.reduceEqDiff, Int.reduceNeg, Int.reduceLT, Int.reduceLE, Int.reduceEq, Int.reduceToNat, fG, fI, hin, Nat.add_sub_cancel]) | ((with_reducible refine And.intro ?_ ?_); omega) | ((fail_if_success (with_reducible first | refine s1 ?_ | refine s2 ?_ | refine s3 ?_ | refine s4 ?_ | refine s5 ?_ | refine s6 ?_ | refine s7 ?_ | refine s8 ?_ | refine s9 ?_)); simp only [D.int, D.bool]))
          exact Next.mk (inn, off + 1, k, xs, out) (by kernel_rfl) ⟨by dsimp only; omega, hil, hsk hmem, hio⟩ (by dsimp only; omega)
        · rw [decide_eq_false hmem] at hin
          have hI2 := hmo hmem
          have hol2 := hI2.len
          simp only [List.length_append, List.length_singleton] at hol2
          have hxt : (gt xs off).toNat < inn.length := by omega
          have hil2 : (inn.set (gt xs off).toNat true).length = ds.length := by rw [List.length_set]; exact hil
          have hio2 : ∀ j : Nat, j < ds.length → gt (inn.set (gt xs off).toNat true) j = decide ((j : Int) ∈ out ++ [gt xs off]) := by
            intro j hj
            rw [gt_set hxt]
            split
            · rename_i e
              rw [decide_eq_true (by rw [List.mem_append, List.mem_singleton]; exact .inr (by omega))]
            · rename_i e
              rw [hio j hj, Bool.eq_iff_iff, decide_eq_true_eq, decide_eq_true_eq, List.mem_append, List.mem_singleton]
              exact ⟨.inl, fun h => h.elim id fun h => by omega⟩
          have htk : ((xs.map iF).drop (off + 1)).take k = (xs.drop (off + 1)).map iF := by rw [← List.map_drop, List.take_of_length_le (by rw [List.length_map, hxl]; omega)]
          generalize xs.drop (off + 1) = ys at htk hxl hI2
          have hap : ys.map iF ++ ns.map iF = (ys ++ ns).map iF := by rw [List.map_append]
          repeat' (first | (with_reducible first | refine r1 ?_ | refine rK fun K hK => ?_ | refine wpS_app fun K hK => ?_ | (refine hK _ ?_; clear hK K) | refine rL fun K hK => ?_) | (with_reducible first | refine wpDr_aK fun N hN => ?_ | refine wpDr_nK fun N hN => ?_ | refine wpDr_gK fun N M hN hM => ?_ | (refine hN _ _ _ _ ?_; clear hN N; (try clear hM M)) | (refine hM ?_; clear hM M; (try clear hN N))) | ((with_reducible refine And.intro (Chk.mk' ?_) ?_); kernel_rfl) | ((with_reducible refine HS.cond1 ?_ ?_); rfl) | ((with_reducible refine HS.cond0 ?_ ?_); rfl) | ((with_reducible apply HS.condB) <;> first | rfl | (with_reducible intro h)) | (with_reducible first | refine r2 ?_ | refine r3 ?_ | refine r4 ?_ | refine r5 ?_ | refine r6 ?_ | refine r7 ?_ | refine r8 ?_ | refine r9 ?_ | refine rA ?_ | refine rB ?_ | refine rC ?_ | refine rD ?_) | ((with_reducible refine blockQ_miss ?_ ?_); rfl) | (with_reducible refine Two.mk' (fun h => ?_) (fun h => ?_) <;> try (exfalso; omega)) | ((with_reducible refine Bsel.mk' (fun h => ?_) (fun h => ?_)) <;> (try simp only [h])) | ((fail_if_success (with_reducible first | refine s1 ?_ | refine s2 ?_ | refine s3 ?_ | refine s4 ?_ | refine s5 ?_ | refine s6 ?_ | refine s7 ?_ | refine s8 ?_ | refine s9 ?_)); simp (disch := omega) only [↓LD, LU, LS, LT, loadA_rf, ↓reduceIte, reduceCtorEq, Nat.reduceAdd, Nat.reduceMul, Nat.reduceSub, Nat.reduceLeDiff, Nat.reduceLT, Nat.reduceEqDiff, Int.reduceNeg, Int.reduceLT, Int.reduceLE, Int.reduceEq, Int.reduceToNat, fG, fI, hin, nd_load, nd_cs, nd_at0, nd_at1, nd_at2, -loadA_rf, hN', htk, hap, hxl, List.append_nil, Nat.add_sub_cancel]) | ((with_reducible refine And.intro ?_ ?_); omega) | ((fail_if_success (with_reducible first | refine s1 ?_ | refine s2 ?_ | refine s3 ?_ | refine s4 ?_ | refine s5 ?_ | refine s6 ?_ | refine s7 ?_ | refine s8 ?_ | refine s9 ?_)); simp only [D.int, D.bool]))
          · obtain rfl : ns = [] := List.eq_nil_of_length_eq_zero (by assumption)
            obtain rfl : ys = [] := List.eq_nil_of_length_eq_zero (by omega)
            exact Next.mk (inn.set (gt xs off).toNat true, 0, 0, [], out ++ [gt xs off]) (by kernel_rfl) ⟨rfl, hil2, hI2, hio2⟩ (by simp; omega)
          · obtain rfl : ys = [] := List.eq_nil_of_length_eq_zero (by omega)
            exact Next.mk (inn.set (gt xs off).toNat true, 0, ns.length, ns, out ++ [gt xs off]) (by kernel_rfl) ⟨by simp, hil2, hI2, hio2⟩ (by simp; omega)
          · obtain rfl : ns = [] := List.eq_nil_of_length_eq_zero (by assumption)
            rw [List.append_nil] at hI2
            exact Next.mk (inn.set (gt xs off).toNat true, 0, k, ys, out ++ [gt xs off]) (by kernel_rfl) ⟨by dsimp only; omega, hil2, hI2, hio2⟩ (by simp; omega)
          · exact Next.mk (inn.set (gt xs off).toNat true, 0, k + ns.length, ys ++ ns, out ++ [gt xs off]) (by kernel_rfl) ⟨by simp [hxl], hil2, hI2, hio2⟩ (by simp; omega)
    · skip
      rw [mk_bools]
      refine HS.loopG [0, 5, 6] (fun x : List Bool × Nat × Nat × List Int × List Int => ⟨frm 73 [(0, .f (fG ds)), (5, .sl 0 0 ds.length), (6, .sl 1 x.2.1 x.2.2.1)], [.data 4 (x.1.map bF), .data 3 (x.2.2.2.1.map iF)], []⟩)
        (fun x => x.2.2.2.1.length = x.2.1 + x.2.2.1 ∧ x.1.length = ds.length ∧ AhI ds node (x.2.2.2.1.drop x.2.1) x.2.2.2.2 ∧ ∀ j : Nat, j < ds.length → gt x.1 j = decide ((j : Int) ∈ x.2.2.2.2)) (fun x => (8 - x.2.2.2.2.length) * 9 + x.2.2.1) (List.replicate ds.length false, 0, ns0.length, ns0, []) (by kernel_rfl)
        ⟨by simp, by simp, by simpa using hA, fun j hj => by dsimp only; rw [gt_rep]; simp⟩ ?_
      rintro ⟨inn, off, k, xs, out⟩ ⟨hx, hil, hI, hio⟩
      dsimp only at hx hil hI hio
      have hol := hI.len
      have hbd := hI.bound
      rw [List.length_drop] at hbd
      rcases k with _ | k
      · rw [List.drop_of_length_le (by omega)] at hI
        have hE := hI.res hc ⟨hn0, hn1⟩ hil hio
        repeat' (first | (with_reducible first | refine r1 ?_ | refine rK fun K hK => ?_ | refine wpS_app fun K hK => ?_ | (refine hK _ ?_; clear hK K) | refine rL fun K hK => ?_) | ((with_reducible refine And.intro (Chk.mk' ?_) ?_); kernel_rfl) | ((with_reducible refine HS.cond1 ?_ ?_); rfl) | ((with_reducible refine HS.cond0 ?_ ?_); rfl) | ((with_reducible apply HS.condB) <;> first | rfl | (with_reducible intro h)) | (with_reducible first | refine r2 ?_ | refine r3 ?_ | refine r4 ?_ | refine r5 ?_ | refine r6 ?_ | refine r7 ?_ | refine r8 ?_ | refine r9 ?_ | refine rA ?_ | refine rB ?_ | refine rC ?_ | refine rD ?_) | ((with_reducible refine blockQ_miss ?_ ?_); rfl) | (with_reducible refine Two.mk' (fun h => ?_) (fun h => ?_) <;> try (exfalso; omega)) | ((with_reducible refine Bsel.mk' (fun h => ?_) (fun h => ?_)) <;> (try simp only [h])) | ((fail_if_success (with_reducible first | refine s1 ?_ | refine s2 ?_ | refine s3 ?_ | refine s4 ?_ | refine s5 ?_ | refine s6 ?_ | refine s7 ?_ | refine s8 ?_ | refine s9 ?_)); simp (disch := omega) only [↓LD, LU, LS, LT, loadA_rf, ↓reduceIte, reduceCtorEq, Nat.reduceAdd, Nat.reduceMul, Nat.reduceSub, Nat.reduceLeDiff, Nat.reduceLT, Nat.reduceEqDiff, Int.reduceNeg, Int.reduceLT, Int.reduceLE, Int.reduceEq, Int.reduceToNat]) | ((with_reducible refine And.intro ?_ ?_); omega) | ((fail_if_success (with_reducible first | refine s1 ?_ | refine s2 ?_ | refine s3 ?_ | refine s4 ?_ | refine s5 ?_ | refine s6 ?_ | refine s7 ?_ | refine s8 ?_ | refine s9 ?_)); simp only [D.int, D.bool]))
        refine HS.loopG [5, 8, 9] (fun x : Nat × Nat × List Int => ⟨frm 73 [(5, .sl 0 0 ds.length), (8, (outT inn x.2.1 x.2.2).1), (9, D.int x.1)], (outT inn x.2.1 x.2.2).2, []⟩)
          (fun x => x.1 ≤ ds.length ∧ x.2.2.length = x.2.1 ∧ x.2.1 ≤ x.1 ∧ aheadF ds node = x.2.2 ++ ((rngL ds.length).drop x.1).filter (fun x => gt inn x.toNat)) (fun x => ds.length - x.1) (0, 0, []) (by kernel_rfl) ⟨Nat.zero_le _, rfl, Nat.le_refl _, hE.symm⟩ ?_
        rintro ⟨i, m, res⟩ ⟨hi, hm, hmi, hr⟩
        dsimp only at hi hm hmi hr
        by_cases hid : i < ds.length
        · rw [drop_gt (by rw [rng_len]; exact hid), rng_at hid, List.filter_cons, show ((i : Int)).toNat = i by omega] at hr
          rcases res with _ | ⟨b, l⟩
          · repeat' (first | (with_reducible first | refine r1 ?_ | refine rK fun K hK => ?_ | refine wpS_app fun K hK => ?_ | (refine hK _ ?_; clear hK K) | refine rL fun K hK => ?_) | ((with_reducible refine And.intro (Chk.mk' ?_) ?_); kernel_rfl) | ((with_reducible refine HS.cond1 ?_ ?_); rfl) | ((with_reducible refine HS.cond0 ?_ ?_); rfl) | ((with_reducible apply HS.condB) <;> first | rfl | (with_reducible intro h)) | (with_reducible first | refine r2 ?_ | refine r3 ?_ | refine r4 ?_ | refine r5 ?_ | refine r6 ?_ | refine r7 ?_ | refine r8 ?_ | refine r9 ?_ | refine rA ?_ | refine rB ?_ | refine rC ?_ | refine rD ?_) | ((with_reducible refine blockQ_miss ?_ ?_); rfl) | (with_reducible refine Two.mk' (fun h => ?_) (fun h => ?_) <;> try (exfalso; omega)) | ((with_reducible refine Bsel.mk' (fun h => ?_) (fun h => ?_)) <;> (try simp only [h])) | ((fail_if_success (with_reducible first | refine s1 ?_ | refine s2 ?_ | refine s3 ?_ | refine s4 ?_ | refine s5 ?_ | refine s6 ?_ | refine s7 ?_ | refine s8 ?_ | refine s9 ?_)); simp (disch := omega) only [↓LD, LU, LS, LT, loadA_rf, ↓reduceIte, reduceCtorEq, Nat.reduceAdd, Nat.reduceMul, Nat.reduceSub, Nat.reduceLeDiff, Nat.reduceLT, Nat.reduceEqDiff, Int.reduceNeg, Int.reduceLT, Int.reduceLE, Int.reduceEq, Int.reduceToNat, outT, List.append_nil]) | ((with_reducible refine And.intro ?_ ?_); omega) | ((fail_if_success (with_reducible first | refine s1 ?_ | refine s2 ?_ | refine s3 ?_ | refine s4 ?_ | refine s5 ?_ | refine s6 ?_ | refine s7 ?_ | refine s8 ?_ | refine s9 ?_)); simp only [D.int, D.bool]))
            · subst hm
              exact Next.mk (i + 1, 0 + 1, [] ++ [(i : Int)]) (by kernel_rfl) ⟨by dsimp only; omega, by simp, by simp at * <;> omega, by dsimp only; rw [hr, if_pos (by assumption), List.append_assoc]; rfl⟩ (by dsimp only; omega)
            · exact Next.mk (i + 1, m, []) (by kernel_rfl) ⟨by dsimp only; omega, hm, by dsimp only; omega, by dsimp only; rw [hr, if_neg (by rw [show gt inn i = false by assumption]; simp)]⟩ (by dsimp only; omega)
          · try simp only [List.length_cons] at hm
            repeat' (first | (with_reducible first | refine r1 ?_ | refine rK fun K hK => ?_ | refine wpS_app fun K hK => ?_ | (refine hK _ ?_; clear hK K) | refine rL fun K hK => ?_) | ((with_reducible refine And.intro (Chk.mk' ?_) ?_); kernel_rfl) | ((with_reducible refine HS.cond1 ?_ ?_); rfl) | ((with_reducible refine HS.cond0 ?_ ?_); rfl) | ((with_reducible apply HS.condB) <;> first | rfl | (with_reducible intro h)) | (with_reducible first | refine r2 ?_ | refine r3 ?_ | refine r4 ?_ | refine r5 ?_ | refine r6 ?_ | refine r7 ?_ | refine r8 ?_ | refine r9 ?_ | refine rA ?_ | refine rB ?_ | refine rC ?_ | refine rD ?_) | ((with_reducible refine blockQ_miss ?_ ?_); rfl) | (with_reducible refine Two.mk' (fun h => ?_) (fun h => ?_) <;> try (exfalso; omega)) | ((with_reducible refine Bsel.mk' (fun h => ?_) (fun h => ?_)) <;> (try simp only [h])) | ((fail_if_success (with_reducible first | refine s1 ?_ | refine s2 ?_ | refine s3 ?_ | refine s4 ?_ | refine s5 ?_ | refine s6 ?_ | refine s7 ?_ | refine s8 ?_ | refine s9 ?_)); simp (disch := omega) only [↓LD, LU, LS, LT, loadA_rf, ↓reduceIte, reduceCtorEq, Nat.reduceAdd, Nat.reduceMul, Nat.reduceSub, Nat.reduceLeDiff, Nat.reduceLT, Nat.reduceEqDiff, Int.reduceNeg, Int.reduceLT, Int.reduceLE, Int.reduceEq, Int.reduceToNat, outT, List.append_nil]) | ((with_reducible refine And.intro ?_ ?_); omega) | ((fail_if_success (with_reducible first | refine s1 ?_ | refine s2 ?_ | refine s3 ?_ | refine s4 ?_ | refine s5 ?_ | refine s6 ?_ | refine s7 ?_ | refine s8 ?_ | refine s9 ?_)); simp only [D.int, D.bool]))
            · subst hm
              exact Next.mk (i + 1, (l.length + 1) + 1, (b :: l) ++ [(i : Int)]) (by kernel_rfl) ⟨by dsimp only; omega, by simp, by simp at * <;> omega, by dsimp only; rw [hr, if_pos (by assumption), List.append_assoc]; rfl⟩ (by dsimp only; omega)
            · exact Next.mk (i + 1, m, (b :: l)) (by kernel_rfl) ⟨by dsimp only; omega, hm, by dsimp only; omega, by dsimp only; rw [hr, if_neg (by rw [show gt inn i = false by assumption]; simp)]⟩ (by dsimp only; omega)
        · rw [List.drop_of_length_le (by rw [rng_len]; omega), List.filter_nil, List.append_nil] at hr
          rw [hr]
          rcases res with _ | ⟨b, l⟩
          · repeat' (first | (with_reducible first | refine r1 ?_ | refine rK fun K hK => ?_ | refine wpS_app fun K hK => ?_ | (refine hK _ ?_; clear hK K) | refine rL fun K hK => ?_) | ((with_reducible refine And.intro (Chk.mk' ?_) ?_); kernel_rfl) | ((with_reducible refine HS.cond1 ?_ ?_); rfl) | ((with_reducible refine HS.cond0 ?_ ?_); rfl) | ((with_reducible apply HS.condB) <;> first | rfl | (with_reducible intro h)) | (with_reducible first | refine r2 ?_ | refine r3 ?_ | refine r4 ?_ | refine r5 ?_ | refine r6 ?_ | refine r7 ?_ | refine r8 ?_ | refine r9 ?_ | refine rA ?_ | refine rB ?_ | refine rC ?_ | refine rD ?_) | ((with_reducible refine blockQ_miss ?_ ?_); rfl) | (with_reducible refine Two.mk' (fun h => ?_) (fun h => ?_) <;> try (exfalso; omega)) | ((with_reducible refine Bsel.mk' (fun h => ?_) (fun h => ?_)) <;> (try simp only [h])) | ((fail_if_success (with_reducible first | refine s1 ?_ | refine s2 ?_ | refine s3 ?_ | refine s4 ?_ | refine s5 ?_ | refine s6 ?_ | refine s7 ?_ | refine s8 ?_ | refine s9 ?_)); simp (disch := omega) only [↓LD, LU, LS, LT, loadA_rf, ↓reduceIte, reduceCtorEq, Nat.reduceAdd, Nat.reduceMul, Nat.reduceSub, Nat.reduceLeDiff, Nat.reduceLT, Nat.reduceEqDiff, Int.reduceNeg, Int.reduceLT, Int.reduceLE, Int.reduceEq, Int.reduceToNat, outT]) | ((with_reducible refine And.intro ?_ ?_); omega) | ((fail_if_success (with_reducible first | refine s1 ?_ | refine s2 ?_ | refine s3 ?_ | refine s4 ?_ | refine s5 ?_ | refine s6 ?_ | refine s7 ?_ | refine s8 ?_ | refine s9 ?_)); simp only [D.int, D.bool]))
            exact end1 rfl rfl (by kernel_rfl) .nil ⟨rfl, rfl⟩
          · repeat' (first | (with_reducible first | refine r1 ?_ | refine rK fun K hK => ?_ | refine wpS_app fun K hK => ?_ | (refine hK _ ?_; clear hK K) | refine rL fun K hK => ?_) | ((with_reducible refine And.intro (Chk.mk' ?_) ?_); kernel_rfl) | ((with_reducible refine HS.cond1 ?_ ?_); rfl) | ((with_reducible refine HS.cond0 ?_ ?_); rfl) | ((with_reducible apply HS.condB) <;> first | rfl | (with_reducible intro h)) | (with_reducible first | refine r2 ?_ | refine r3 ?_ | refine r4 ?_ | refine r5 ?_ | refine r6 ?_ | refine r7 ?_ | refine r8 ?_ | refine r9 ?_ | refine rA ?_ | refine rB ?_ | refine rC ?_ | refine rD ?_) | ((with_reducible refine blockQ_miss ?_ ?_); rfl) | (with_reducible refine Two.mk' (fun h => ?_) (fun h => ?_) <;> try (exfalso; omega)) | ((with_reducible refine Bsel.mk' (fun h => ?_) (fun h => ?_)) <;> (try simp only [h])) | ((fail_if_success (with_reducible first | refine s1 ?_ | refine s2 ?_ | refine s3 ?_ | refine s4 ?_ | refine s5 ?_ | refine s6 ?_ | refine s7 ?_ | refine s8 ?_ | refine s9 ?_)); simp (disch := omega) only [↓LD, LU, LS, LT, loadA_rf, ↓reduceIte, reduceCtorEq, Nat.reduceAdd, Nat.reduceMul, Nat.reduceSub, Nat.reduceLeDiff, Nat.reduceLT, Nat.reduceEqDiff, Int.reduceNeg, Int.reduceLT, Int.reduceLE, Int.reduceEq, Int.reduceToNat, outT]) | ((with_reducible refine And.intro ?_ ?_); omega) | ((fail_if_success (with_reducible first | refine s1 ?_ | refine s2 ?_ | refine s3 ?_ | refine s4 ?_ | refine s5 ?_ | refine s6 ?_ | refine s7 ?_ | refine s8 ?_ | refine s9 ?_)); simp only [D.int, D.bool]))
            exact end1 rfl rfl (by kernel_rfl) (.sl rfl (fun e => by simp at hm; omega)) ⟨by rw [List.drop_zero, fI, hm]; rfl, rfl⟩
      · have hxo : off < xs.length := by omega
        rw [drop_gt hxo] at hI
        have hx0 := (hI.tin (gt xs off) (by simp)).2
        obtain ⟨_, hns8, _⟩ := ns_of hc hx0
        have hnsl := hf.2 _ (gt_mem (l := ds) (k := (gt xs off).toNat) (by omega))
        have hsk := fun h => hI.skip (x := gt xs off) (todo := xs.drop (off + 1)) (out := out) h
        have hmo := fun h => hI.more hc (x := gt xs off) (todo := xs.drop (off + 1)) (out := out) h
        have hin := hio (gt xs off).toNat (by omega)
        rw [show (((gt xs off).toNat : Nat) : Int) = gt xs off by omega] at hin
        generalize hN' : (gt ds (gt xs off).toNat).ns = ns at hns8 hnsl hmo
        have hxl : (xs.drop (off + 1)).length = k := by rw [List.length_drop]; omega
        by_cases hmem : gt xs off ∈ out
        · rw [decide_eq_true hmem] at hin
          repeat' (first | (with_reducible first | refine r1 ?_ | refine rK fun K hK => ?_ | refine wpS_app fun K hK => ?_ | (refine hK _ ?_; clear hK K) | refine rL fun K hK => ?_) | ((with_reducible refine And.intro (Chk.mk' ?_) ?_); kernel_rfl) | ((with_reducible refine HS.cond1 ?_ ?_); rfl) | ((with_reducible refine HS.cond0 ?_ ?_); rfl) | ((with_reducible apply HS.condB) <;> first | rfl | (with_reducible intro h)) | (with_reducible first | refine r2 ?_ | refine r3 ?_ | refine r4 ?_ | refine r5 ?_ | refine r6 ?_ | refine r7 ?_ | refine r8 ?_ | refine r9 ?_ | refine rA ?_ | refine rB ?_ | refine rC ?_ | refine rD ?_) | ((with_reducible refine blockQ_miss ?_ ?_); rfl) | (with_reducible refine Two.mk' (fun h => ?_) (fun h => ?_) <;> try (exfalso; omega)) | ((with_reducible refine Bsel.mk' (fun h => ?_) (fun h => ?_)) <;> (try simp only [h])) | ((fail_if_success (with_reducible first | refine s1 ?_ | refine s2 ?_ | refine s3 ?_ | refine s4 ?_ | refine s5 ?_ | refine s6 ?_ | refine s7 ?_ | refine s8 ?_ | refine s9 ?_)); simp (disch := omega) only [↓LD, LU, LS, LT, loadA_rf, ↓reduceIte, reduceCtorEq, Nat.reduceAdd, Nat.reduceMul, Nat.reduceSub, Nat.reduceLeDiff, Nat.reduceLT, Nat.reduceEqDiff, Int.reduceNeg, Int.reduceLT, Int.reduceLE, Int.reduceEq, Int.reduceToNat, fG, fI, hin, Nat.add_sub_cancel]) | ((with_reducible refine And.intro ?_ ?_); omega) | ((fail_if_success (with_reducible first | refine s1 ?_ | refine s2 ?_ | refine s3 ?_ | refine s4 ?_ | refine s5 ?_ | refine s6 ?_ | refine s7 ?_ | refine s8 ?_ | refine s9 ?_)); simp only [D.int, D.bool]))
          exact Next.mk (inn, off + 1, k, xs, out) (by kernel_rfl) ⟨by dsimp only; omega, hil, hsk hmem, hio⟩ (by dsimp only; omega)
        · rw [decide_eq_false hmem] at hin
          have hI2 := hmo hmem
          have hol2 := hI2.len
          simp only [List.length_append, List.length_singleton] at hol2
          have hxt : (gt xs off).toNat < inn.length := by omega
          have hil2 : (inn.set (gt xs off).toNat true).length = ds.length := by rw [List.length_set]; exact hil
          have hio2 : ∀ j : Nat, j < ds.length → gt (inn.set (gt xs off).toNat true) j = decide ((j : Int) ∈ out ++ [gt xs off]) := by
            intro j hj
            rw [gt_set hxt]
            split
            · rename_i e
              rw [decide_eq_true (by rw [List.mem_append, List.mem_singleton]; exact .inr (by omega))]
            · rename_i e
              rw [hio j hj, Bool.eq_iff_iff, decide_eq_true_eq, decide_eq_true_eq, List.mem_append, List.mem_singleton]
              exact ⟨.inl, fun h => h.elim id fun h => by omega⟩
          have htk : ((xs.map iF).drop (off + 1)).take k = (xs.drop (off + 1)).map iF := by rw [← List.map_drop, List.take_of_length_le (by rw [List.length_map, hxl]; omega)]
          generalize xs.drop (off + 1) = ys at htk hxl hI2
          have hap : ys.map iF ++ ns.map iF = (ys ++ ns).map iF := by rw [List.map_append]
          repeat' (first | (with_reducible first | refine r1 ?_ | refine rK fun K hK => ?_ | refine wpS_app fun K hK => ?_ | (refine hK _ ?_; clear hK K) | refine rL fun K hK => ?_) | (with_reducible first | refine wpDr_aK fun N hN => ?_ | refine wpDr_nK fun N hN => ?_ | refine wpDr_gK fun N M hN hM => ?_ | (refine hN _ _ _ _ ?_; clear hN N; (try clear hM M)) | (refine hM ?_; clear hM M; (try clear hN N))) | ((with_reducible refine And.intro (Chk.mk' ?_) ?_); kernel_rfl) | ((with_reducible refine HS.cond1 ?_ ?_); rfl) | ((with_reducible refine HS.cond0 ?_ ?_); rfl) | ((with_reducible apply HS.condB) <;> first | rfl | (with_reducible intro h)) | (with_reducible first | refine r2 ?_ | refine r3 ?_ | refine r4 ?_ | refine r5 ?_ | refine r6 ?_ | refine r7 ?_ | refine r8 ?_ | refine r9 ?_ | refine rA ?_ | refine rB ?_ | refine rC ?_ | refine rD ?_) | ((with_reducible refine blockQ_miss ?_ ?_); rfl) | (with_reducible refine Two.mk' (fun h => ?_) (fun h => ?_) <;> try (exfalso; omega)) | ((with_reducible refine Bsel.mk' (fun h => ?_) (fun h => ?_)) <;> (try simp only [h])) | ((fail_if_success (with_reducible first | refine s1 ?_ | refine s2 ?_ | refine s3 ?_ | refine s4 ?_ | refine s5 ?_ | refine s6 ?_ | refine s7 ?_ | refine s8 ?_ | refine s9 ?_)); simp (disch := omega) only [↓LD, LU, LS, LT, loadA_rf, ↓reduceIte, reduceCtorEq, Nat.reduceAdd, Nat.reduceMul, Nat.reduceSub, Nat.reduceLeDiff, Nat.reduceLT, Nat.reduceEqDiff, Int.reduceNeg, Int.reduceLT, Int.reduceLE, Int.reduceEq, Int.reduceToNat, fG, fI, hin, nd_load, nd_cs, nd_at0, nd_at1, nd_at2, -loadA_rf, hN', htk, hap, hxl, List.append_nil, Nat.add_sub_cancel]) | ((with_reducible refine And.intro ?_ ?_); omega) | ((fail_if_success (with_reducible first | refine s1 ?_ | refine s2 ?_ | refine s3 ?_ | refine s4 ?_ | refine s5 ?_ | refine s6 ?_ | refine s7 ?_ | refine s8 ?_ | refine s9 ?_)); simp only [D.int, D.bool]))
          · obtain rfl : ns = [] := List.eq_nil_of_length_eq_zero (by assumption)
            obtain rfl : ys = [] := List.eq_nil_of_length_eq_zero (by omega)
            exact Next.mk (inn.set (gt xs off).toNat true, 0, 0, [], out ++ [gt xs off]) (by kernel_rfl) ⟨rfl, hil2, hI2, hio2⟩ (by simp; omega)
          · obtain rfl : ys = [] := List.eq_nil_of_length_eq_zero (by omega)
            exact Next.mk (inn.set (gt xs off).toNat true, 0, ns.length, ns, out ++ [gt xs off]) (by kernel_rfl) ⟨by simp, hil2, hI2, hio2⟩ (by simp; omega)
          · obtain rfl : ns = [] := List.eq_nil_of_length_eq_zero (by assumption)
            rw [List.append_nil] at hI2
            exact Next.mk (inn.set (gt xs off).toNat true, 0, k, ys, out ++ [gt xs off]) (by kernel_rfl) ⟨by dsimp only; omega, hil2, hI2, hio2⟩ (by simp; omega)
          · exact Next.mk (inn.set (gt xs off).toNat true, 0, k + ns.length, ys ++ ns, out ++ [gt xs off]) (by kernel_rfl) ⟨by simp [hxl], hil2, hI2, hio2⟩ (by simp; omega)
  · have h0 : aheadF ds node = [] := if_neg hok
    repeat' (first | (with_reducible first | refine r1 ?_ | refine rK fun K hK => ?_ | refine wpS_app fun K hK => ?_ | (refine hK _ ?_; clear hK K) | refine rL fun K hK => ?_) | ((with_reducible refine And.intro (Chk.mk' ?_) ?_); kernel_rfl) | ((with_reducible refine HS.cond1 ?_ ?_); rfl) | ((with_reducible refine HS.cond0 ?_ ?_); rfl) | ((with_reducible apply HS.condB) <;> first | rfl | (with_reducible intro h)) | (with_reducible first | refine r2 ?_ | refine r3 ?_ | refine r4 ?_ | refine r5 ?_ | refine r6 ?_ | refine r7 ?_ | refine r8 ?_ | refine r9 ?_ | refine rA ?_ | refine rB ?_ | refine rC ?_ | refine rD ?_) | ((with_reducible refine blockQ_miss ?_ ?_); rfl) | (with_reducible refine Two.mk' (fun h => ?_) (fun h => ?_) <;> try (exfalso; omega)) | ((with_reducible refine Bsel.mk' (fun h => ?_) (fun h => ?_)) <;> (try simp only [h])) | ((fail_if_success (with_reducible first | refine s1 ?_ | refine s2 ?_ | refine s3 ?_ | refine s4 ?_ | refine s5 ?_ | refine s6 ?_ | refine s7 ?_ | refine s8 ?_ | refine s9 ?_)); simp (disch := omega) only [↓LD, LU, LS, LT, loadA_rf, ↓reduceIte, reduceCtorEq, Nat.reduceAdd, Nat.reduceMul, Nat.reduceSub, Nat.reduceLeDiff, Nat.reduceLT, Nat.reduceEqDiff, Int.reduceNeg, Int.reduceLT, Int.reduceLE, Int.reduceEq, Int.reduceToNat, fG]) | ((with_reducible refine And.intro ?_ ?_); omega) | ((fail_if_success (with_reducible first | refine s1 ?_ | refine s2 ?_ | refine s3 ?_ | refine s4 ?_ | refine s5 ?_ | refine s6 ?_ | refine s7 ?_ | refine s8 ?_ | refine s9 ?_)); simp only [D.int, D.bool]))
    all_goals
      refine end1 rfl rfl (by kernel_rfl) .nil ⟨?_, rfl⟩
      rw [h0]; rfl
end Go.Proofs.Ytjbkckhpoicaeaa.Mir
