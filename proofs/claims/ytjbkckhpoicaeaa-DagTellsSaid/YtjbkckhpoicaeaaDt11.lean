/- Texts laid into one file: DagV, DagW, DagX, CRefDag. -/
import Derived.Test.YtjbkckhpoicaeaaDt10

set_option linter.unusedVariables false
set_option linter.unusedSimpArgs false
/- Orders and depths, in plain lists: each node behind what it needs. -/
namespace Go.Proofs.Ytjbkckhpoicaeaa.Mir
open Go Go.RowKit
set_option linter.unusedVariables false
set_option linter.unusedSimpArgs false

theorem gt_set {α : Type} [Inhabited α] {l : List α} {i j : Nat} {x : α} (hi : i < l.length) : gt (l.set i x) j = if i = j then x else gt l j := by
  unfold gt
  by_cases h : i = j
  · subst h
    rw [if_pos rfl, getElem!_pos _ i (by rw [List.length_set]; exact hi), List.getElem_set_self]
  · rw [if_neg h]
    by_cases hj : j < l.length
    · rw [getElem!_pos _ j (by rw [List.length_set]; exact hj), getElem!_pos _ j hj, List.getElem_set_ne h]
    · rw [getElem!_neg _ j (by rw [List.length_set]; exact hj), getElem!_neg _ j hj]
theorem nxt_met (done : List Bool) : ∀ (k : Nat) (ds : List Nd), 0 ≤ nxt done k ds → metB done (gt ds (nxt done k ds - k).toNat).ns = true
  | k, [], h => by simp [nxt] at h
  | k, d :: ds, h => by
    unfold nxt at h ⊢
    split
    · rename_i hc
      simp only [Bool.and_eq_true] at hc
      rw [show ((k : Int) - k).toNat = 0 by omega]
      exact hc.2
    · rename_i hc
      rw [if_neg hc] at h
      have h1 := nxt_met done (k + 1) ds h
      have h2 := nxt_in done (k + 1) ds h
      obtain ⟨m, hm⟩ : ∃ m : Nat, (nxt done (k + 1) ds - (k : Nat)).toNat = m + 1 := ⟨(nxt done (k + 1) ds - ((k + 1 : Nat) : Int)).toNat, by omega⟩
      rw [show (nxt done (k + 1) ds - ((k + 1 : Nat) : Int)).toNat = m by omega] at h1
      rw [hm]
      exact h1
theorem idx_ne {z x : Int} {l : List Int} (h : z ≠ x) : (z :: l).idxOf x = l.idxOf x + 1 := by
  rw [List.idxOf_cons, show (z == x) = false from by simpa using h]
  rfl
/-- A list in which each node stands behind what it needs. -/
def Topo (ds : List Nd) : List Bool → List Int → Prop
  | _, [] => True
  | done, x :: l => 0 ≤ x ∧ x.toNat < done.length ∧ gt done x.toNat = false ∧ metB done (gt ds x.toNat).ns = true ∧ Topo ds (done.set x.toNat true) l
theorem sq_topo (ds : List Nd) : ∀ (n : Nat) (done : List Bool), done.length = ds.length → Topo ds done (sqF ds n done)
  | 0, _, _ => trivial
  | n + 1, done, hd => by
    rw [sqF]
    split
    · trivial
    · rename_i h
      have h0 : 0 ≤ nxt done 0 ds := by omega
      have h1 := nxt_in done 0 ds h0
      have h2 := nxt_met done 0 ds h0
      rw [show (nxt done 0 ds - ((0 : Nat) : Int)).toNat = (nxt done 0 ds).toNat by omega] at h2
      exact ⟨h0, by omega, h1.2.2, h2, sq_topo ds n _ (by rw [List.length_set]; exact hd)⟩
theorem topo_open {ds : List Nd} : ∀ {l : List Int} {done : List Bool}, Topo ds done l → ∀ x ∈ l, 0 ≤ x ∧ x.toNat < done.length ∧ gt done x.toNat = false
  | z :: l, done, ⟨h1, h2, h3, h4, h5⟩, x, hx => by
    rcases List.mem_cons.1 hx with rfl | hx
    · exact ⟨h1, h2, h3⟩
    · obtain ⟨k1, k2, k3⟩ := topo_open h5 x hx
      rw [List.length_set] at k2
      rw [gt_set h2] at k3
      split at k3
      · cases k3
      · exact ⟨k1, k2, k3⟩
theorem topo_ne {ds : List Nd} {l : List Int} {done : List Bool} {z : Int} (h2 : z.toNat < done.length) (h : Topo ds (done.set z.toNat true) l) : z ∉ l := fun hz => by
  have := (topo_open h z hz).2.2
  rw [gt_set h2, if_pos rfl] at this
  cases this
theorem topo_nodup {ds : List Nd} : ∀ {l : List Int} {done : List Bool}, Topo ds done l → l.Nodup
  | [], _, _ => List.nodup_nil
  | z :: l, done, ⟨h1, h2, h3, h4, h5⟩ => List.nodup_cons.2 ⟨topo_ne h2 h5, topo_nodup h5⟩
theorem topo_before {ds : List Nd} : ∀ {l : List Int} {done : List Bool}, Topo ds done l → ∀ x ∈ l, ∀ y ∈ (gt ds x.toNat).ns, 0 ≤ y → gt done y.toNat = true ∨ (y ∈ l ∧ l.idxOf y < l.idxOf x)
  | z :: l, done, ⟨h1, h2, h3, h4, h5⟩, x, hx, y, hy, hy0 => by
    have hzl := topo_ne h2 h5
    by_cases hxz : x = z
    · subst hxz
      have := List.all_eq_true.1 h4 y hy
      simp only [inB, Bool.and_eq_true] at this
      exact .inl this.2
    · have hx : x ∈ l := by
        rcases List.mem_cons.1 hx with h | h
        · exact absurd h hxz
        · exact h
      have ix : (z :: l).idxOf x = l.idxOf x + 1 := idx_ne (fun e => hxz e.symm)
      rcases topo_before h5 x hx y hy hy0 with h | ⟨h6, h7⟩
      · rw [gt_set h2] at h
        by_cases hzy : z.toNat = y.toNat
        · have : z = y := by omega
          subst this
          exact .inr ⟨by simp, by rw [ix, List.idxOf_cons_self]; omega⟩
        · rw [if_neg hzy] at h
          exact .inl h
      · refine .inr ⟨by simp [h6], ?_⟩
        have hyz : z ≠ y := fun e => hzl (e ▸ h6)
        rw [ix, idx_ne hyz]
        omega
theorem order_topo (ds : List Nd) : Topo ds (List.replicate ds.length false) (orderL ds) := by
  rw [orderL_seq]
  exact sq_topo ds _ _ List.length_replicate
theorem gt_rep {n k : Nat} : gt (List.replicate n false) k = false := by
  unfold gt
  by_cases h : k < n
  · rw [getElem!_pos _ k (by simpa using h)]; simp
  · rw [getElem!_neg _ k (by simpa using h)]; rfl
theorem order_all {ds : List Nd} (hc : checkL ds = 0) {x : Int} (hx : 0 ≤ x ∧ x < ds.length) : x ∈ orderL ds := by
  refine Classical.byContradiction fun h => ?_
  have h1 := nodup_len ds.length (x :: orderL ds) (List.nodup_cons.2 ⟨h, topo_nodup (order_topo ds)⟩) (fun y hy => by
    rcases List.mem_cons.1 hy with rfl | hy
    · exact hx
    · exact order_in y hy)
  rw [List.length_cons, order_len hc] at h1
  omega
/-- Where a node stands. -/
def rkL (ds : List Nd) (x : Int) : Nat := (orderL ds).idxOf x
theorem rk_lt {ds : List Nd} (hc : checkL ds = 0) {x y : Int} (hx : 0 ≤ x ∧ x < ds.length) (hy : y ∈ (gt ds x.toNat).ns) : rkL ds y < rkL ds x := by
  have h1 := (ns_of hc hx).1 y hy
  rcases topo_before (order_topo ds) x (order_all hc hx) y hy h1.1 with h | ⟨_, h⟩
  · rw [gt_rep] at h; cases h
  · exact h
theorem Rch.in' {ds : List Nd} (hc : checkL ds = 0) {a x : Int} (ha : 0 ≤ a ∧ a < ds.length) (h : Rch ds a x) : 0 ≤ x ∧ x < ds.length := by
  induction h with
  | need hx => exact (ns_of hc ha).1 _ hx
  | far _ hx ih => exact (ns_of hc ih).1 _ hx
theorem Rch.rk {ds : List Nd} (hc : checkL ds = 0) {a x : Int} (ha : 0 ≤ a ∧ a < ds.length) (h : Rch ds a x) : rkL ds x < rkL ds a := by
  induction h with
  | need hx => exact rk_lt hc ha hx
  | far h hx ih => exact Nat.lt_trans (rk_lt hc (h.in' hc ha) hx) ih
theorem Rch.trans {ds : List Nd} {a b x : Int} (h1 : Rch ds a b) (h2 : Rch ds b x) : Rch ds a x := by
  induction h2 with
  | need hx => exact .far h1 hx
  | far _ hx ih => exact .far ih hx
theorem nodup_sub : ∀ {l m : List Int}, l.Nodup → (∀ x ∈ l, x ∈ m) → l.length ≤ m.length
  | [], _, _, _ => Nat.zero_le _
  | x :: l, m, hn, h => by
    have h1 := List.nodup_cons.1 hn
    have h2 := nodup_sub (l := l) (m := m.erase x) h1.2 (fun y hy => by
      have hne : y ≠ x := fun e => h1.1 (e ▸ hy)
      exact (List.mem_erase_of_ne hne).2 (h y (by simp [hy])))
    rw [List.length_erase_of_mem (h x (by simp))] at h2
    have h3 : 0 < m.length := List.length_pos_of_mem (h x (by simp))
    simp only [List.length_cons]
    omega
theorem pw_nodup {l : List Int} (h : l.Pairwise (· < ·)) : l.Nodup := h.imp fun h => by omega
/-- Depths in their bounds. -/
theorem mxN_dp {n : Nat} {t : Int} (k : Nat) : ∀ (ns : List Int) (deep : List Int), Dp n t deep → k < n → (∀ x ∈ ns, 0 ≤ x ∧ x < n) → Dp n t (mxN k deep ns)
  | [], _, h, _, _ => h
  | x :: ns, deep, h, hk, hn => by
    have hx := hn x (by simp)
    have h1 := h.at hk
    have h2 := h.at (k := x.toNat) (by omega)
    exact mxN_dp k ns _ (h.set (by omega)) hk fun y hy => hn y (by simp [hy])
theorem deepS_dp {ds : List Nd} (hc : checkL ds = 0) {t : Int} {deep : List Int} (h : Dp ds.length t deep) {k : Int} (hk : 0 ≤ k ∧ k < ds.length) : Dp ds.length (t + 1) (deepS ds deep k) := by
  have h1 := mxN_dp k.toNat _ deep h (by omega) (ns_of hc hk).1
  have h2 := h1.at (k := k.toNat) (by omega)
  exact (h1.mono (by omega)).set (by omega)
theorem foldl_dp {ds : List Nd} (hc : checkL ds = 0) : ∀ (l : List Int) (t : Int) (deep : List Int), Dp ds.length t deep → (∀ k ∈ l, 0 ≤ k ∧ k < ds.length) → Dp ds.length (t + l.length) (l.foldl (deepS ds) deep)
  | [], t, deep, h, _ => by simpa using h
  | k :: l, t, deep, h, hl => by
    have := foldl_dp hc l (t + 1) _ (deepS_dp hc h (hl k (by simp))) fun x hx => hl x (by simp [hx])
    rw [List.foldl_cons]
    exact this.mono (by simp only [List.length_cons]; omega)
theorem zero_dp (n : Nat) : Dp n 0 (List.replicate n 0) := ⟨List.length_replicate, fun y hy => by rw [List.eq_of_mem_replicate hy]; omega⟩
theorem deepL_dp {ds : List Nd} (hc : checkL ds = 0) : Dp ds.length ds.length (deepL ds) := by
  have := foldl_dp hc (orderL ds) 0 _ (zero_dp ds.length) order_in
  rw [order_len hc] at this
  exact this.mono (by omega)
theorem mxF_ge : ∀ (l : List Int) (m : Int), m ≤ mxF m l ∧ ∀ x ∈ l, x ≤ mxF m l
  | [], m => ⟨Int.le_refl m, fun x hx => by cases hx⟩
  | y :: l, m => by
    have h := mxF_ge l (max m y)
    rw [mxF]
    refine ⟨by omega, fun x hx => ?_⟩
    rcases List.mem_cons.1 hx with rfl | hx
    · omega
    · exact h.2 x hx
theorem mxF_le {t : Int} : ∀ (l : List Int) (m : Int), m ≤ t → (∀ x ∈ l, x ≤ t) → mxF m l ≤ t
  | [], m, h, _ => h
  | y :: l, m, h, hl => mxF_le l _ (by have := hl y (by simp); omega) fun x hx => hl x (by simp [hx])
theorem maxL_ge {l : List Int} {x : Int} (hx : x ∈ l) : x ≤ maxL l := by
  cases l with
  | nil => cases hx
  | cons y l =>
    have h := mxF_ge l y
    show x ≤ mxF y l
    rcases List.mem_cons.1 hx with rfl | hx
    · exact h.1
    · exact h.2 x hx
theorem maxL_le {l : List Int} {t : Int} (h0 : l ≠ []) (h : ∀ x ∈ l, x ≤ t) : maxL l ≤ t := by
  cases l with
  | nil => exact absurd rfl h0
  | cons y l => exact mxF_le l y (h y (by simp)) fun x hx => h x (by simp [hx])
theorem depth_in {ds : List Nd} (hc : checkL ds = 0) : 1 ≤ depthL ds ∧ depthL ds ≤ ds.length := by
  have hn := (check_in hc).1
  have hd := deepL_dp hc
  rw [depthL, if_pos hc]
  refine ⟨?_, maxL_le (fun e => by have := hd.1; rw [e] at this; simp at this; omega) fun x hx => (hd.2 x hx).2⟩
  have hol := order_len hc
  obtain ⟨l, k, hlk⟩ : ∃ l k, orderL ds = l ++ [k] := ⟨_, _, (List.dropLast_concat_getLast (l := orderL ds) (fun e => by rw [e] at hol; simp at hol; omega)).symm⟩
  have hk : 0 ≤ k ∧ k < ds.length := order_in k (by rw [hlk]; simp)
  have h1 := foldl_dp hc l 0 _ (zero_dp ds.length) fun x hx => order_in x (by rw [hlk]; simp [hx])
  have h2 := mxN_dp k.toNat _ _ h1 (by omega) (ns_of hc hk).1
  have h3 := h2.at (k := k.toNat) (by omega)
  have h4 : deepL ds = deepS ds (l.foldl (deepS ds) (List.replicate ds.length 0)) k := by
    rw [deepL, hlk, List.foldl_append]; rfl
  have h5 : gt (mxN k.toNat (l.foldl (deepS ds) (List.replicate ds.length 0)) (gt ds k.toNat).ns) k.toNat + 1 ∈ deepL ds := by
    rw [h4, deepS]
    exact List.mem_set (by rw [h2.1]; omega) _
  have := maxL_ge h5
  omega
end Go.Proofs.Ytjbkckhpoicaeaa.Mir

/- Graphs that the laws make (cutoverhand.Defs at 7): each node needs earlier ones alone. -/
namespace Go.Proofs.Ytjbkckhpoicaeaa.Mir
open Go Go.RowKit
set_option linter.unusedVariables false
set_option linter.unusedSimpArgs false
set_option maxHeartbeats 2000000

theorem rise_mono {n m : Int} (h : n ≤ m) : ∀ {l : List Int} {a : Int}, rise n a l = true → rise m a l = true
  | [], _, _ => rfl
  | y :: l, a, hr => by
    simp only [rise, Bool.and_eq_true, decide_eq_true_eq] at hr ⊢
    exact ⟨⟨hr.1.1, by omega⟩, rise_mono h hr.2⟩
theorem rise_one (j : Nat) : rise (j + 1 : Nat) (-1) [(j : Int)] = true := by
  simp only [rise, Bool.and_eq_true, decide_eq_true_eq, and_true]
  omega
theorem rise_snoc {n z : Int} : ∀ {l : List Int} {a : Int}, rise n a l = true → a < z → z < n → (∀ x ∈ l, x < z) → rise n a (l ++ [z]) = true
  | [], a, _, h1, h2, _ => by simp only [List.nil_append, rise, Bool.and_eq_true, decide_eq_true_eq, and_true]; omega
  | y :: l, a, hr, h1, h2, h3 => by
    simp only [List.cons_append, rise, Bool.and_eq_true, decide_eq_true_eq] at hr ⊢
    exact ⟨hr.1, rise_snoc hr.2 (h3 y (by simp)) h2 fun x hx => h3 x (by simp [hx])⟩
theorem rise_last {n z : Int} {l : List Int} {q : Nat} (h : rise n (-1) l = true) (hq : l.length = q + 1) (hl : gt l q < z) : ∀ x ∈ l, x < z := by
  intro x hx
  obtain ⟨i, hi, rfl⟩ := List.mem_iff_getElem.1 hx
  have hp := List.pairwise_iff_getElem.1 (rise_lt h)
  rw [gt_eq (by omega)] at hl
  by_cases hiq : i = q
  · subst hiq; exact hl
  · have := hp i q hi (by omega) (by omega)
    omega
/-- A node that needs earlier ones alone. -/
def OkNd (i : Nat) (d : Nd) : Prop := rise i (-1) d.ns = true ∧ 1 ≤ d.tr ∧ d.tr ≤ 5 ∧ 1 ≤ d.le ∧ d.le ≤ 1048576
def DefOk (ds : List Nd) : Prop := ∀ i, i < ds.length → OkNd i (gt ds i)
theorem defok_nil : DefOk [] := fun i h => by simp at h
theorem gt_app {ds : List Nd} {d : Nd} {i : Nat} (h : i < ds.length) : gt (ds ++ [d]) i = gt ds i := by
  rw [gt_eq (by simp; omega), gt_eq h, List.getElem_append_left h]
theorem gt_app_last {ds : List Nd} {d : Nd} : gt (ds ++ [d]) ds.length = d := by
  rw [gt_eq (by simp)]; simp
theorem defok_app {ds : List Nd} {d : Nd} (h : DefOk ds) (hd : OkNd ds.length d) : DefOk (ds ++ [d]) := fun i hi => by
  rw [List.length_append, List.length_singleton] at hi
  by_cases hl : i < ds.length
  · rw [gt_app hl]; exact h i hl
  · obtain rfl : i = ds.length := by omega
    rw [gt_app_last]; exact hd
theorem defok_one : DefOk [(⟨[], 1, 5⟩ : Nd)] := defok_app (ds := []) defok_nil ⟨rfl, by decide, by decide, by decide, by decide⟩
def Def7 (r : D) (H' : List Row) : Prop := ∃ ds, r = .f (fG ds) ∧ DefOk ds ∧ 1 ≤ ds.length ∧ ds.length ≤ 6 ∧ H' = []
set_option maxRecDepth 100000 in
theorem c_hand_Defs7 (l : List Rd) : Con Try.prog 7 [.f (fR l), D.int 7] [] Def7 := by
  refine Con.walk good fn_hand_Defs (by simp) ?_
  unfold s_hand_Defs
  simp only [argsE, List.length_cons, List.length_nil, Nat.reduceAdd]
  repeat' (first | (with_reducible first | refine r1 ?_ | refine rK fun K hK => ?_ | refine wpS_app fun K hK => ?_ | (refine hK _ ?_; clear hK K) | refine rL fun K hK => ?_) | ((with_reducible refine And.intro (Chk.mk' ?_) ?_); kernel_rfl) | ((with_reducible refine HS.cond1 ?_ ?_); rfl) | ((with_reducible refine HS.cond0 ?_ ?_); rfl) | ((with_reducible apply HS.condB) <;> first | rfl | (with_reducible intro h)) | (with_reducible first | refine r2 ?_ | refine r3 ?_ | refine r4 ?_ | refine r5 ?_ | refine r6 ?_ | refine r7 ?_ | refine r8 ?_ | refine r9 ?_ | refine rA ?_ | refine rB ?_ | refine rC ?_ | refine rD ?_) | ((with_reducible refine blockQ_miss ?_ ?_); rfl) | (with_reducible refine Two.mk' (fun h => ?_) (fun h => ?_) <;> try (exfalso; omega)) | ((with_reducible refine Bsel.mk' (fun h => ?_) (fun h => ?_)) <;> (try simp only [h])) | ((fail_if_success (with_reducible first | refine s1 ?_ | refine s2 ?_ | refine s3 ?_ | refine s4 ?_ | refine s5 ?_ | refine s6 ?_ | refine s7 ?_ | refine s8 ?_ | refine s9 ?_)); simp (disch := omega) only [↓LD, LU, LS, LT, loadA_rf, ↓reduceIte, reduceCtorEq, Nat.reduceAdd, Nat.reduceMul, Nat.reduceSub, Nat.reduceLeDiff, Nat.reduceLT, Nat.reduceEqDiff, Int.reduceNeg, Int.reduceLT, Int.reduceLE, Int.reduceEq, Int.reduceToNat, fR]) | ((with_reducible refine And.intro ?_ ?_); omega) | ((fail_if_success (with_reducible first | refine s1 ?_ | refine s2 ?_ | refine s3 ?_ | refine s4 ?_ | refine s5 ?_ | refine s6 ?_ | refine s7 ?_ | refine s8 ?_ | refine s9 ?_)); simp only [D.int, D.bool]))
  refine HS.cut [1, 5] 0 (fun x : Nat × List Nd => ⟨frm 158 [(1, D.int 7), (5, (outN x.1 x.2).1)], (outN x.1 x.2).2, []⟩) (fun x => DefOk x.2 ∧ x.2.length = x.1 ∧ x.1 ≤ 6) ?_ ?_
  · refine HS.loopG [0, 1, 5, 6] (fun x : Nat × Nat × List Nd => ⟨frm 158 [(0, .f (fR l)), (1, D.int 7), (5, (outN x.2.1 x.2.2).1), (6, D.int x.1)], (outN x.2.1 x.2.2).2, []⟩)
      (fun x => x.1 ≤ 6 ∧ DefOk x.2.2 ∧ x.2.2.length = x.2.1 ∧ x.2.1 = x.1) (fun x => 6 - x.1) (0, 0, []) (by kernel_rfl) ⟨by omega, defok_nil, rfl, rfl⟩ ?_
    rintro ⟨i, nd, ds⟩ ⟨hi, hds, hdl, hni⟩
    dsimp only at hi hds hdl hni
    have p1 := pick_in (x := (gt l i).tr) (n := 3) (by omega)
    have p2 := pick_in (x := (gt l i).le) (n := 9) (by omega)
    rcases nd with _ | nd
    · obtain rfl := List.eq_nil_of_length_eq_zero hdl
      repeat' (first | (with_reducible first | refine r1 ?_ | refine rK fun K hK => ?_ | refine wpS_app fun K hK => ?_ | (refine hK _ ?_; clear hK K) | refine rL fun K hK => ?_) | ((with_reducible refine And.intro (Chk.mk' ?_) ?_); kernel_rfl) | ((with_reducible refine HS.cond1 ?_ ?_); rfl) | ((with_reducible refine HS.cond0 ?_ ?_); rfl) | ((with_reducible apply HS.condB) <;> first | rfl | (with_reducible intro h)) | (with_reducible first | refine r2 ?_ | refine r3 ?_ | refine r4 ?_ | refine r5 ?_ | refine r6 ?_ | refine r7 ?_ | refine r8 ?_ | refine r9 ?_ | refine rA ?_ | refine rB ?_ | refine rC ?_ | refine rD ?_) | ((with_reducible refine blockQ_miss ?_ ?_); rfl) | (with_reducible refine Two.mk' (fun h => ?_) (fun h => ?_) <;> try (exfalso; omega)) | ((with_reducible refine Bsel.mk' (fun h => ?_) (fun h => ?_)) <;> (try simp only [h])) | ((fail_if_success (with_reducible first | refine s1 ?_ | refine s2 ?_ | refine s3 ?_ | refine s4 ?_ | refine s5 ?_ | refine s6 ?_ | refine s7 ?_ | refine s8 ?_ | refine s9 ?_)); simp (disch := omega) only [↓LD, LU, LS, LT, loadA_rf, ↓reduceIte, reduceCtorEq, Nat.reduceAdd, Nat.reduceMul, Nat.reduceSub, Nat.reduceLeDiff, Nat.reduceLT, Nat.reduceEqDiff, Int.reduceNeg, Int.reduceLT, Int.reduceLE, Int.reduceEq, Int.reduceToNat, fR, outN, rd_at0, rd_at1, rd_at2]) | ((with_reducible refine And.intro ?_ ?_); omega) | ((fail_if_success (with_reducible first | refine s1 ?_ | refine s2 ?_ | refine s3 ?_ | refine s4 ?_ | refine s5 ?_ | refine s6 ?_ | refine s7 ?_ | refine s8 ?_ | refine s9 ?_)); simp only [D.int, D.bool]))
      · refine callDr_peek (c_hand_Pick _ 3 (by omega) (by omega)) (.cons .f (.cons .f .nil)) ⟨.f .v, by simp⟩ ?_
        repeat' (first | (with_reducible first | refine r1 ?_ | refine rK fun K hK => ?_ | refine wpS_app fun K hK => ?_ | (refine hK _ ?_; clear hK K) | refine rL fun K hK => ?_) | ((with_reducible refine And.intro (Chk.mk' ?_) ?_); kernel_rfl) | ((with_reducible refine HS.cond1 ?_ ?_); rfl) | ((with_reducible refine HS.cond0 ?_ ?_); rfl) | ((with_reducible apply HS.condB) <;> first | rfl | (with_reducible intro h)) | (with_reducible first | refine r2 ?_ | refine r3 ?_ | refine r4 ?_ | refine r5 ?_ | refine r6 ?_ | refine r7 ?_ | refine r8 ?_ | refine r9 ?_ | refine rA ?_ | refine rB ?_ | refine rC ?_ | refine rD ?_) | ((with_reducible refine blockQ_miss ?_ ?_); rfl) | (with_reducible refine Two.mk' (fun h => ?_) (fun h => ?_) <;> try (exfalso; omega)) | ((with_reducible refine Bsel.mk' (fun h => ?_) (fun h => ?_)) <;> (try simp only [h])) | ((fail_if_success (with_reducible first | refine s1 ?_ | refine s2 ?_ | refine s3 ?_ | refine s4 ?_ | refine s5 ?_ | refine s6 ?_ | refine s7 ?_ | refine s8 ?_ | refine s9 ?_)); simp (disch := omega) only [↓LD, LU, LS, LT, loadA_rf, ↓reduceIte, reduceCtorEq, Nat.reduceAdd, Nat.reduceMul, Nat.reduceSub, Nat.reduceLeDiff, Nat.reduceLT, Nat.reduceEqDiff, Int.reduceNeg, Int.reduceLT, Int.reduceLE, Int.reduceEq, Int.reduceToNat, fR, outN, rd_at0, rd_at1, rd_at2, List.append_nil, List.map_nil, D.int]) | ((with_reducible refine And.intro ?_ ?_); omega) | ((fail_if_success (with_reducible first | refine s1 ?_ | refine s2 ?_ | refine s3 ?_ | refine s4 ?_ | refine s5 ?_ | refine s6 ?_ | refine s7 ?_ | refine s8 ?_ | refine s9 ?_)); simp only [D.int, D.bool]))
        refine callDr_peek (c_hand_Pick _ 9 (by omega) (by omega)) (.cons .f (.cons .f .nil)) ⟨.f .v, by simp⟩ ?_
        repeat' (first | (with_reducible first | refine r1 ?_ | refine rK fun K hK => ?_ | refine wpS_app fun K hK => ?_ | (refine hK _ ?_; clear hK K) | refine rL fun K hK => ?_) | ((with_reducible refine And.intro (Chk.mk' ?_) ?_); kernel_rfl) | ((with_reducible refine HS.cond1 ?_ ?_); rfl) | ((with_reducible refine HS.cond0 ?_ ?_); rfl) | ((with_reducible apply HS.condB) <;> first | rfl | (with_reducible intro h)) | (with_reducible first | refine r2 ?_ | refine r3 ?_ | refine r4 ?_ | refine r5 ?_ | refine r6 ?_ | refine r7 ?_ | refine r8 ?_ | refine r9 ?_ | refine rA ?_ | refine rB ?_ | refine rC ?_ | refine rD ?_) | ((with_reducible refine blockQ_miss ?_ ?_); rfl) | (with_reducible refine Two.mk' (fun h => ?_) (fun h => ?_) <;> try (exfalso; omega)) | ((with_reducible refine Bsel.mk' (fun h => ?_) (fun h => ?_)) <;> (try simp only [h])) | ((fail_if_success (with_reducible first | refine s1 ?_ | refine s2 ?_ | refine s3 ?_ | refine s4 ?_ | refine s5 ?_ | refine s6 ?_ | refine s7 ?_ | refine s8 ?_ | refine s9 ?_)); simp (disch := omega) only [↓LD, LU, LS, LT, loadA_rf, ↓reduceIte, reduceCtorEq, Nat.reduceAdd, Nat.reduceMul, Nat.reduceSub, Nat.reduceLeDiff, Nat.reduceLT, Nat.reduceEqDiff, Int.reduceNeg, Int.reduceLT, Int.reduceLE, Int.reduceEq, Int.reduceToNat, fR, outN, rd_at0, rd_at1, rd_at2, List.append_nil, List.map_nil, D.int]) | ((with_reducible refine And.intro ?_ ?_); omega) | ((fail_if_success (with_reducible first | refine s1 ?_ | refine s2 ?_ | refine s3 ?_ | refine s4 ?_ | refine s5 ?_ | refine s6 ?_ | refine s7 ?_ | refine s8 ?_ | refine s9 ?_)); simp only [D.int, D.bool]))
        refine HS.cut [0, 1, 5, 6, 7] 2 (fun x : Nat × Nat × List Int => ⟨frm 158 [(0, .f (fR l)), (1, D.int 7), (5, (outN 0 []).1), (6, D.int i), (7, .pt 0 0)], (outN 0 []).2 ++ inV (0 + 1) x.2.1 x.2.2 (1 + pick (gt l i).tr 3) (1 + pick (gt l i).le 9), []⟩) (fun x => x.2.2.length = x.2.1 ∧ x.2.1 ≤ 100 ∧ rise i (-1) x.2.2 = true) ?_ ?_
        · refine HS.loopG [0, 1, 5, 6, 7, 8] (fun x : Nat × Nat × List Int => ⟨frm 158 [(0, .f (fR l)), (1, D.int 7), (5, (outN 0 []).1), (6, D.int i), (7, .pt 0 0), (8, D.int x.1)], (outN 0 []).2 ++ inV (0 + 1) x.2.1 x.2.2 (1 + pick (gt l i).tr 3) (1 + pick (gt l i).le 9), []⟩)
            (fun x => x.1 ≤ i ∧ x.2.2.length = x.2.1 ∧ x.2.1 ≤ 3 * x.1 ∧ rise x.1 (-1) x.2.2 = true) (fun x => i - x.1) (0, 0, []) (by kernel_rfl) ⟨by omega, rfl, by simp, rfl⟩ ?_
          rintro ⟨j, n, ns⟩ ⟨hj, hn, hnj, hr⟩
          dsimp only at hj hn hnj hr
          obtain rfl : n = 0 := by omega
          repeat' (first | (with_reducible first | refine r1 ?_ | refine rK fun K hK => ?_ | refine wpS_app fun K hK => ?_ | (refine hK _ ?_; clear hK K) | refine rL fun K hK => ?_) | ((with_reducible refine And.intro (Chk.mk' ?_) ?_); kernel_rfl) | ((with_reducible refine HS.cond1 ?_ ?_); rfl) | ((with_reducible refine HS.cond0 ?_ ?_); rfl) | ((with_reducible apply HS.condB) <;> first | rfl | (with_reducible intro h)) | (with_reducible first | refine r2 ?_ | refine r3 ?_ | refine r4 ?_ | refine r5 ?_ | refine r6 ?_ | refine r7 ?_ | refine r8 ?_ | refine r9 ?_ | refine rA ?_ | refine rB ?_ | refine rC ?_ | refine rD ?_) | ((with_reducible refine blockQ_miss ?_ ?_); rfl) | (with_reducible refine Two.mk' (fun h => ?_) (fun h => ?_) <;> try (exfalso; omega)) | ((with_reducible refine Bsel.mk' (fun h => ?_) (fun h => ?_)) <;> (try simp only [h])) | ((fail_if_success (with_reducible first | refine s1 ?_ | refine s2 ?_ | refine s3 ?_ | refine s4 ?_ | refine s5 ?_ | refine s6 ?_ | refine s7 ?_ | refine s8 ?_ | refine s9 ?_)); simp (disch := omega) only [↓LD, LU, LS, LT, loadA_rf, ↓reduceIte, reduceCtorEq, Nat.reduceAdd, Nat.reduceMul, Nat.reduceSub, Nat.reduceLeDiff, Nat.reduceLT, Nat.reduceEqDiff, Int.reduceNeg, Int.reduceLT, Int.reduceLE, Int.reduceEq, Int.reduceToNat, fR, outN, inV, List.append_nil]) | ((with_reducible refine And.intro ?_ ?_); omega) | ((fail_if_success (with_reducible first | refine s1 ?_ | refine s2 ?_ | refine s3 ?_ | refine s4 ?_ | refine s5 ?_ | refine s6 ?_ | refine s7 ?_ | refine s8 ?_ | refine s9 ?_)); simp only [D.int, D.bool]))
          exact OutS.mk (j, 0, ns) (by kernel_rfl) ⟨hn, by dsimp only; omega, rise_mono (by omega) hr⟩
        · rintro ⟨_, n, ns⟩ ⟨hn, hn2, hr⟩ s' hv
          dsimp only at hn hn2 hr
          refine blockQ_hit ?_
          refine thenQ_n ?_
          refine HS.view hv ?_
          rcases n with _ | n
          · refine HS.view (View.nil0 (r := 0) (i := 0) rfl rfl) ?_
            repeat' (first | (with_reducible first | refine r1 ?_ | refine rK fun K hK => ?_ | refine wpS_app fun K hK => ?_ | (refine hK _ ?_; clear hK K) | refine rL fun K hK => ?_) | ((with_reducible refine And.intro (Chk.mk' ?_) ?_); kernel_rfl) | ((with_reducible refine HS.cond1 ?_ ?_); rfl) | ((with_reducible refine HS.cond0 ?_ ?_); rfl) | ((with_reducible apply HS.condB) <;> first | rfl | (with_reducible intro h)) | (with_reducible first | refine r2 ?_ | refine r3 ?_ | refine r4 ?_ | refine r5 ?_ | refine r6 ?_ | refine r7 ?_ | refine r8 ?_ | refine r9 ?_ | refine rA ?_ | refine rB ?_ | refine rC ?_ | refine rD ?_) | ((with_reducible refine blockQ_miss ?_ ?_); rfl) | (with_reducible refine Two.mk' (fun h => ?_) (fun h => ?_) <;> try (exfalso; omega)) | ((with_reducible refine Bsel.mk' (fun h => ?_) (fun h => ?_)) <;> (try simp only [h])) | ((fail_if_success (with_reducible first | refine s1 ?_ | refine s2 ?_ | refine s3 ?_ | refine s4 ?_ | refine s5 ?_ | refine s6 ?_ | refine s7 ?_ | refine s8 ?_ | refine s9 ?_)); simp (disch := omega) only [↓LD, LU, LS, LT, loadA_rf, ↓reduceIte, reduceCtorEq, Nat.reduceAdd, Nat.reduceMul, Nat.reduceSub, Nat.reduceLeDiff, Nat.reduceLT, Nat.reduceEqDiff, Int.reduceNeg, Int.reduceLT, Int.reduceLE, Int.reduceEq, Int.reduceToNat, fR, outN, inV, List.append_nil, List.set_cons_succ, List.set_cons_zero]) | ((with_reducible refine And.intro ?_ ?_); omega) | ((fail_if_success (with_reducible first | refine s1 ?_ | refine s2 ?_ | refine s3 ?_ | refine s4 ?_ | refine s5 ?_ | refine s6 ?_ | refine s7 ?_ | refine s8 ?_ | refine s9 ?_)); simp only [D.int, D.bool]))
            skip
            skip
            refine Next.mk (i + 1, 0 + 1, [] ++ [(⟨[], 1 + pick (gt l i).tr 3, 1 + pick (gt l i).le 9⟩ : Nd)]) (by kernel_rfl) ⟨by dsimp only; omega, defok_app hds ⟨rfl, by dsimp only; omega, by dsimp only; omega, by dsimp only; omega, by dsimp only; omega⟩, by simp [], by dsimp only; omega⟩ (by dsimp only; omega)
          · repeat' (first | (with_reducible first | refine r1 ?_ | refine rK fun K hK => ?_ | refine wpS_app fun K hK => ?_ | (refine hK _ ?_; clear hK K) | refine rL fun K hK => ?_) | ((with_reducible refine And.intro (Chk.mk' ?_) ?_); kernel_rfl) | ((with_reducible refine HS.cond1 ?_ ?_); rfl) | ((with_reducible refine HS.cond0 ?_ ?_); rfl) | ((with_reducible apply HS.condB) <;> first | rfl | (with_reducible intro h)) | (with_reducible first | refine r2 ?_ | refine r3 ?_ | refine r4 ?_ | refine r5 ?_ | refine r6 ?_ | refine r7 ?_ | refine r8 ?_ | refine r9 ?_ | refine rA ?_ | refine rB ?_ | refine rC ?_ | refine rD ?_) | ((with_reducible refine blockQ_miss ?_ ?_); rfl) | (with_reducible refine Two.mk' (fun h => ?_) (fun h => ?_) <;> try (exfalso; omega)) | ((with_reducible refine Bsel.mk' (fun h => ?_) (fun h => ?_)) <;> (try simp only [h])) | ((fail_if_success (with_reducible first | refine s1 ?_ | refine s2 ?_ | refine s3 ?_ | refine s4 ?_ | refine s5 ?_ | refine s6 ?_ | refine s7 ?_ | refine s8 ?_ | refine s9 ?_)); simp (disch := omega) only [↓LD, LU, LS, LT, loadA_rf, ↓reduceIte, reduceCtorEq, Nat.reduceAdd, Nat.reduceMul, Nat.reduceSub, Nat.reduceLeDiff, Nat.reduceLT, Nat.reduceEqDiff, Int.reduceNeg, Int.reduceLT, Int.reduceLE, Int.reduceEq, Int.reduceToNat, fR, outN, inV, List.append_nil]) | ((with_reducible refine And.intro ?_ ?_); omega) | ((fail_if_success (with_reducible first | refine s1 ?_ | refine s2 ?_ | refine s3 ?_ | refine s4 ?_ | refine s5 ?_ | refine s6 ?_ | refine s7 ?_ | refine s8 ?_ | refine s9 ?_)); simp only [D.int, D.bool]))
            refine bind'_of (freeze_sl (b := 8) (z := [.int .i64 0]) rfl (by kernel_rfl) (by rw [List.length_map]; exact hn)) ?_
            repeat' (first | (with_reducible first | refine r1 ?_ | refine rK fun K hK => ?_ | refine wpS_app fun K hK => ?_ | (refine hK _ ?_; clear hK K) | refine rL fun K hK => ?_) | ((with_reducible refine And.intro (Chk.mk' ?_) ?_); kernel_rfl) | ((with_reducible refine HS.cond1 ?_ ?_); rfl) | ((with_reducible refine HS.cond0 ?_ ?_); rfl) | ((with_reducible apply HS.condB) <;> first | rfl | (with_reducible intro h)) | (with_reducible first | refine r2 ?_ | refine r3 ?_ | refine r4 ?_ | refine r5 ?_ | refine r6 ?_ | refine r7 ?_ | refine r8 ?_ | refine r9 ?_ | refine rA ?_ | refine rB ?_ | refine rC ?_ | refine rD ?_) | ((with_reducible refine blockQ_miss ?_ ?_); rfl) | (with_reducible refine Two.mk' (fun h => ?_) (fun h => ?_) <;> try (exfalso; omega)) | ((with_reducible refine Bsel.mk' (fun h => ?_) (fun h => ?_)) <;> (try simp only [h])) | ((fail_if_success (with_reducible first | refine s1 ?_ | refine s2 ?_ | refine s3 ?_ | refine s4 ?_ | refine s5 ?_ | refine s6 ?_ | refine s7 ?_ | refine s8 ?_ | refine s9 ?_)); simp (disch := omega) only [↓LD, LU, LS, LT, loadA_rf, ↓reduceIte, reduceCtorEq, Nat.reduceAdd, Nat.reduceMul, Nat.reduceSub, Nat.reduceLeDiff, Nat.reduceLT, Nat.reduceEqDiff, Int.reduceNeg, Int.reduceLT, Int.reduceLE, Int.reduceEq, Int.reduceToNat, applyUpd, List.append_nil]) | ((with_reducible refine And.intro ?_ ?_); omega) | ((fail_if_success (with_reducible first | refine s1 ?_ | refine s2 ?_ | refine s3 ?_ | refine s4 ?_ | refine s5 ?_ | refine s6 ?_ | refine s7 ?_ | refine s8 ?_ | refine s9 ?_)); simp only [D.int, D.bool]))
            skip
            skip
            exact Next.mk (i + 1, 0 + 1, [] ++ [(⟨ns, 1 + pick (gt l i).tr 3, 1 + pick (gt l i).le 9⟩ : Nd)]) (by rw [← hn]; kernel_rfl) ⟨by dsimp only; omega, defok_app hds ⟨by rw [← hni] at hr; exact hr, by dsimp only; omega, by dsimp only; omega, by dsimp only; omega, by dsimp only; omega⟩, by simp [], by dsimp only; omega⟩ (by dsimp only; omega)
      all_goals exact OutS.mk (0, []) (by kernel_rfl) ⟨hds, hdl, by dsimp only; omega⟩
    · skip
      repeat' (first | (with_reducible first | refine r1 ?_ | refine rK fun K hK => ?_ | refine wpS_app fun K hK => ?_ | (refine hK _ ?_; clear hK K) | refine rL fun K hK => ?_) | ((with_reducible refine And.intro (Chk.mk' ?_) ?_); kernel_rfl) | ((with_reducible refine HS.cond1 ?_ ?_); rfl) | ((with_reducible refine HS.cond0 ?_ ?_); rfl) | ((with_reducible apply HS.condB) <;> first | rfl | (with_reducible intro h)) | (with_reducible first | refine r2 ?_ | refine r3 ?_ | refine r4 ?_ | refine r5 ?_ | refine r6 ?_ | refine r7 ?_ | refine r8 ?_ | refine r9 ?_ | refine rA ?_ | refine rB ?_ | refine rC ?_ | refine rD ?_) | ((with_reducible refine blockQ_miss ?_ ?_); rfl) | (with_reducible refine Two.mk' (fun h => ?_) (fun h => ?_) <;> try (exfalso; omega)) | ((with_reducible refine Bsel.mk' (fun h => ?_) (fun h => ?_)) <;> (try simp only [h])) | ((fail_if_success (with_reducible first | refine s1 ?_ | refine s2 ?_ | refine s3 ?_ | refine s4 ?_ | refine s5 ?_ | refine s6 ?_ | refine s7 ?_ | refine s8 ?_ | refine s9 ?_)); simp (disch := omega) only [↓LD, LU, LS, LT, loadA_rf, ↓reduceIte, reduceCtorEq, Nat.reduceAdd, Nat.reduceMul, Nat.reduceSub, Nat.reduceLeDiff, Nat.reduceLT, Nat.reduceEqDiff, Int.reduceNeg, Int.reduceLT, Int.reduceLE, Int.reduceEq, Int.reduceToNat, fR, outN, rd_at0, rd_at1, rd_at2]) | ((with_reducible refine And.intro ?_ ?_); omega) | ((fail_if_success (with_reducible first | refine s1 ?_ | refine s2 ?_ | refine s3 ?_ | refine s4 ?_ | refine s5 ?_ | refine s6 ?_ | refine s7 ?_ | refine s8 ?_ | refine s9 ?_)); simp only [D.int, D.bool]))
      · refine callDr_peek (c_hand_Pick _ 3 (by omega) (by omega)) (.cons .f (.cons .f .nil)) ⟨.f .v, by simp⟩ ?_
        repeat' (first | (with_reducible first | refine r1 ?_ | refine rK fun K hK => ?_ | refine wpS_app fun K hK => ?_ | (refine hK _ ?_; clear hK K) | refine rL fun K hK => ?_) | ((with_reducible refine And.intro (Chk.mk' ?_) ?_); kernel_rfl) | ((with_reducible refine HS.cond1 ?_ ?_); rfl) | ((with_reducible refine HS.cond0 ?_ ?_); rfl) | ((with_reducible apply HS.condB) <;> first | rfl | (with_reducible intro h)) | (with_reducible first | refine r2 ?_ | refine r3 ?_ | refine r4 ?_ | refine r5 ?_ | refine r6 ?_ | refine r7 ?_ | refine r8 ?_ | refine r9 ?_ | refine rA ?_ | refine rB ?_ | refine rC ?_ | refine rD ?_) | ((with_reducible refine blockQ_miss ?_ ?_); rfl) | (with_reducible refine Two.mk' (fun h => ?_) (fun h => ?_) <;> try (exfalso; omega)) | ((with_reducible refine Bsel.mk' (fun h => ?_) (fun h => ?_)) <;> (try simp only [h])) | ((fail_if_success (with_reducible first | refine s1 ?_ | refine s2 ?_ | refine s3 ?_ | refine s4 ?_ | refine s5 ?_ | refine s6 ?_ | refine s7 ?_ | refine s8 ?_ | refine s9 ?_)); simp (disch := omega) only [↓LD, LU, LS, LT, loadA_rf, ↓reduceIte, reduceCtorEq, Nat.reduceAdd, Nat.reduceMul, Nat.reduceSub, Nat.reduceLeDiff, Nat.reduceLT, Nat.reduceEqDiff, Int.reduceNeg, Int.reduceLT, Int.reduceLE, Int.reduceEq, Int.reduceToNat, fR, outN, rd_at0, rd_at1, rd_at2, List.append_nil, List.map_nil, D.int]) | ((with_reducible refine And.intro ?_ ?_); omega) | ((fail_if_success (with_reducible first | refine s1 ?_ | refine s2 ?_ | refine s3 ?_ | refine s4 ?_ | refine s5 ?_ | refine s6 ?_ | refine s7 ?_ | refine s8 ?_ | refine s9 ?_)); simp only [D.int, D.bool]))
        refine callDr_peek (c_hand_Pick _ 9 (by omega) (by omega)) (.cons .f (.cons .f .nil)) ⟨.f .v, by simp⟩ ?_
        repeat' (first | (with_reducible first | refine r1 ?_ | refine rK fun K hK => ?_ | refine wpS_app fun K hK => ?_ | (refine hK _ ?_; clear hK K) | refine rL fun K hK => ?_) | ((with_reducible refine And.intro (Chk.mk' ?_) ?_); kernel_rfl) | ((with_reducible refine HS.cond1 ?_ ?_); rfl) | ((with_reducible refine HS.cond0 ?_ ?_); rfl) | ((with_reducible apply HS.condB) <;> first | rfl | (with_reducible intro h)) | (with_reducible first | refine r2 ?_ | refine r3 ?_ | refine r4 ?_ | refine r5 ?_ | refine r6 ?_ | refine r7 ?_ | refine r8 ?_ | refine r9 ?_ | refine rA ?_ | refine rB ?_ | refine rC ?_ | refine rD ?_) | ((with_reducible refine blockQ_miss ?_ ?_); rfl) | (with_reducible refine Two.mk' (fun h => ?_) (fun h => ?_) <;> try (exfalso; omega)) | ((with_reducible refine Bsel.mk' (fun h => ?_) (fun h => ?_)) <;> (try simp only [h])) | ((fail_if_success (with_reducible first | refine s1 ?_ | refine s2 ?_ | refine s3 ?_ | refine s4 ?_ | refine s5 ?_ | refine s6 ?_ | refine s7 ?_ | refine s8 ?_ | refine s9 ?_)); simp (disch := omega) only [↓LD, LU, LS, LT, loadA_rf, ↓reduceIte, reduceCtorEq, Nat.reduceAdd, Nat.reduceMul, Nat.reduceSub, Nat.reduceLeDiff, Nat.reduceLT, Nat.reduceEqDiff, Int.reduceNeg, Int.reduceLT, Int.reduceLE, Int.reduceEq, Int.reduceToNat, fR, outN, rd_at0, rd_at1, rd_at2, List.append_nil, List.map_nil, D.int]) | ((with_reducible refine And.intro ?_ ?_); omega) | ((fail_if_success (with_reducible first | refine s1 ?_ | refine s2 ?_ | refine s3 ?_ | refine s4 ?_ | refine s5 ?_ | refine s6 ?_ | refine s7 ?_ | refine s8 ?_ | refine s9 ?_)); simp only [D.int, D.bool]))
        refine HS.cut [0, 1, 5, 6, 7] 2 (fun x : Nat × Nat × List Int => ⟨frm 158 [(0, .f (fR l)), (1, D.int 7), (5, (outN (nd + 1) ds).1), (6, D.int i), (7, .pt 1 0)], (outN (nd + 1) ds).2 ++ inV (1 + 1) x.2.1 x.2.2 (1 + pick (gt l i).tr 3) (1 + pick (gt l i).le 9), []⟩) (fun x => x.2.2.length = x.2.1 ∧ x.2.1 ≤ 100 ∧ rise i (-1) x.2.2 = true) ?_ ?_
        · refine HS.loopG [0, 1, 5, 6, 7, 8] (fun x : Nat × Nat × List Int => ⟨frm 158 [(0, .f (fR l)), (1, D.int 7), (5, (outN (nd + 1) ds).1), (6, D.int i), (7, .pt 1 0), (8, D.int x.1)], (outN (nd + 1) ds).2 ++ inV (1 + 1) x.2.1 x.2.2 (1 + pick (gt l i).tr 3) (1 + pick (gt l i).le 9), []⟩)
            (fun x => x.1 ≤ i ∧ x.2.2.length = x.2.1 ∧ x.2.1 ≤ 3 * x.1 ∧ rise x.1 (-1) x.2.2 = true) (fun x => i - x.1) (0, 0, []) (by kernel_rfl) ⟨by omega, rfl, by simp, rfl⟩ ?_
          rintro ⟨j, n, ns⟩ ⟨hj, hn, hnj, hr⟩
          dsimp only at hj hn hnj hr
          rcases n with _ | n
          · repeat' (first | (with_reducible first | refine r1 ?_ | refine rK fun K hK => ?_ | refine wpS_app fun K hK => ?_ | (refine hK _ ?_; clear hK K) | refine rL fun K hK => ?_) | ((with_reducible refine And.intro (Chk.mk' ?_) ?_); kernel_rfl) | ((with_reducible refine HS.cond1 ?_ ?_); rfl) | ((with_reducible refine HS.cond0 ?_ ?_); rfl) | ((with_reducible apply HS.condB) <;> first | rfl | (with_reducible intro h)) | (with_reducible first | refine r2 ?_ | refine r3 ?_ | refine r4 ?_ | refine r5 ?_ | refine r6 ?_ | refine r7 ?_ | refine r8 ?_ | refine r9 ?_ | refine rA ?_ | refine rB ?_ | refine rC ?_ | refine rD ?_) | ((with_reducible refine blockQ_miss ?_ ?_); rfl) | (with_reducible refine Two.mk' (fun h => ?_) (fun h => ?_) <;> try (exfalso; omega)) | ((with_reducible refine Bsel.mk' (fun h => ?_) (fun h => ?_)) <;> (try simp only [h])) | ((fail_if_success (with_reducible first | refine s1 ?_ | refine s2 ?_ | refine s3 ?_ | refine s4 ?_ | refine s5 ?_ | refine s6 ?_ | refine s7 ?_ | refine s8 ?_ | refine s9 ?_)); simp (disch := omega) only [↓LD, LU, LS, LT, loadA_rf, ↓reduceIte, reduceCtorEq, Nat.reduceAdd, Nat.reduceMul, Nat.reduceSub, Nat.reduceLeDiff, Nat.reduceLT, Nat.reduceEqDiff, Int.reduceNeg, Int.reduceLT, Int.reduceLE, Int.reduceEq, Int.reduceToNat, fR, outN, inV, List.append_nil]) | ((with_reducible refine And.intro ?_ ?_); omega) | ((fail_if_success (with_reducible first | refine s1 ?_ | refine s2 ?_ | refine s3 ?_ | refine s4 ?_ | refine s5 ?_ | refine s6 ?_ | refine s7 ?_ | refine s8 ?_ | refine s9 ?_)); simp only [D.int, D.bool]))
            · refine HS.loopG [0, 1, 5, 6, 7, 8, 9] (fun x : Nat × Nat × List Int => ⟨frm 158 [(0, .f (fR l)), (1, D.int 7), (5, (outN (nd + 1) ds).1), (6, D.int i), (7, .pt 1 0), (8, D.int j), (9, D.int x.1)], (outN (nd + 1) ds).2 ++ inV (1 + 1) x.2.1 x.2.2 (1 + pick (gt l i).tr 3) (1 + pick (gt l i).le 9), []⟩)
                (fun x => x.1 ≤ 3 ∧ x.2.2.length = x.2.1 ∧ x.2.1 ≤ 3 * j + x.1 ∧ rise (j + 1 : Nat) (-1) x.2.2 = true) (fun x => 3 - x.1) (0, 0, ns) (by kernel_rfl) ⟨by omega, hn, by dsimp only; omega, rise_mono (by omega) hr⟩ ?_
              rintro ⟨m, q, qs⟩ ⟨hm, hq, hqj, hs⟩
              dsimp only at hm hq hqj hs
              have p3 := pick_in (x := gt (gt l i).ns m) (n := i) (by omega)
              rcases q with _ | q
              · repeat' (first | (with_reducible first | refine r1 ?_ | refine rK fun K hK => ?_ | refine wpS_app fun K hK => ?_ | (refine hK _ ?_; clear hK K) | refine rL fun K hK => ?_) | ((with_reducible refine And.intro (Chk.mk' ?_) ?_); kernel_rfl) | ((with_reducible refine HS.cond1 ?_ ?_); rfl) | ((with_reducible refine HS.cond0 ?_ ?_); rfl) | ((with_reducible apply HS.condB) <;> first | rfl | (with_reducible intro h)) | (with_reducible first | refine r2 ?_ | refine r3 ?_ | refine r4 ?_ | refine r5 ?_ | refine r6 ?_ | refine r7 ?_ | refine r8 ?_ | refine r9 ?_ | refine rA ?_ | refine rB ?_ | refine rC ?_ | refine rD ?_) | ((with_reducible refine blockQ_miss ?_ ?_); rfl) | (with_reducible refine Two.mk' (fun h => ?_) (fun h => ?_) <;> try (exfalso; omega)) | ((with_reducible refine Bsel.mk' (fun h => ?_) (fun h => ?_)) <;> (try simp only [h])) | ((fail_if_success (with_reducible first | refine s1 ?_ | refine s2 ?_ | refine s3 ?_ | refine s4 ?_ | refine s5 ?_ | refine s6 ?_ | refine s7 ?_ | refine s8 ?_ | refine s9 ?_)); simp (disch := omega) only [↓LD, LU, LS, LT, loadA_rf, ↓reduceIte, reduceCtorEq, Nat.reduceAdd, Nat.reduceMul, Nat.reduceSub, Nat.reduceLeDiff, Nat.reduceLT, Nat.reduceEqDiff, Int.reduceNeg, Int.reduceLT, Int.reduceLE, Int.reduceEq, Int.reduceToNat, fR, fI, outN, inV, rd_at0, rd_at1, rd_at2, List.append_nil]) | ((with_reducible refine And.intro ?_ ?_); omega) | ((fail_if_success (with_reducible first | refine s1 ?_ | refine s2 ?_ | refine s3 ?_ | refine s4 ?_ | refine s5 ?_ | refine s6 ?_ | refine s7 ?_ | refine s8 ?_ | refine s9 ?_)); simp only [D.int, D.bool]))
                · refine callW_peek (c_hand_Pick _ i (by omega) (by omega)) (.cons .f (.cons .f .nil)) ?_ ?_
                  · rintro _ _ ⟨rfl, rfl⟩
                    exact ⟨.f .v, by simp⟩
                  rintro _ _ ⟨rfl, rfl⟩
                  repeat' (first | (with_reducible first | refine r1 ?_ | refine rK fun K hK => ?_ | refine wpS_app fun K hK => ?_ | (refine hK _ ?_; clear hK K) | refine rL fun K hK => ?_) | ((with_reducible refine And.intro (Chk.mk' ?_) ?_); kernel_rfl) | ((with_reducible refine HS.cond1 ?_ ?_); rfl) | ((with_reducible refine HS.cond0 ?_ ?_); rfl) | ((with_reducible apply HS.condB) <;> first | rfl | (with_reducible intro h)) | (with_reducible first | refine r2 ?_ | refine r3 ?_ | refine r4 ?_ | refine r5 ?_ | refine r6 ?_ | refine r7 ?_ | refine r8 ?_ | refine r9 ?_ | refine rA ?_ | refine rB ?_ | refine rC ?_ | refine rD ?_) | ((with_reducible refine blockQ_miss ?_ ?_); rfl) | (with_reducible refine Two.mk' (fun h => ?_) (fun h => ?_) <;> try (exfalso; omega)) | ((with_reducible refine Bsel.mk' (fun h => ?_) (fun h => ?_)) <;> (try simp only [h])) | ((fail_if_success (with_reducible first | refine s1 ?_ | refine s2 ?_ | refine s3 ?_ | refine s4 ?_ | refine s5 ?_ | refine s6 ?_ | refine s7 ?_ | refine s8 ?_ | refine s9 ?_)); simp (disch := omega) only [↓LD, LU, LS, LT, loadA_rf, ↓reduceIte, reduceCtorEq, Nat.reduceAdd, Nat.reduceMul, Nat.reduceSub, Nat.reduceLeDiff, Nat.reduceLT, Nat.reduceEqDiff, Int.reduceNeg, Int.reduceLT, Int.reduceLE, Int.reduceEq, Int.reduceToNat, fR, fI, outN, inV, rd_at0, rd_at1, rd_at2, List.append_nil, List.map_nil]) | ((with_reducible refine And.intro ?_ ?_); omega) | ((fail_if_success (with_reducible first | refine s1 ?_ | refine s2 ?_ | refine s3 ?_ | refine s4 ?_ | refine s5 ?_ | refine s6 ?_ | refine s7 ?_ | refine s8 ?_ | refine s9 ?_)); simp only [D.int, D.bool]))
                  · exact Next.mk (m + 1, 1, [(j : Int)]) (by kernel_rfl) ⟨by dsimp only; omega, rfl, by dsimp only; omega, rise_one j⟩ (by dsimp only; omega)
                  · exact Next.mk (m + 1, 0, qs) (by kernel_rfl) ⟨by dsimp only; omega, hq, by dsimp only; omega, hs⟩ (by dsimp only; omega)
                · exact Next.mk (j + 1, 0, qs) (by kernel_rfl) ⟨by dsimp only; omega, hq, by dsimp only; omega, hs⟩ (by dsimp only; omega)
                · exact Next.mk (j + 1, 0, qs) (by kernel_rfl) ⟨by dsimp only; omega, hq, by dsimp only; omega, hs⟩ (by dsimp only; omega)
              · repeat' (first | (with_reducible first | refine r1 ?_ | refine rK fun K hK => ?_ | refine wpS_app fun K hK => ?_ | (refine hK _ ?_; clear hK K) | refine rL fun K hK => ?_) | ((with_reducible refine And.intro (Chk.mk' ?_) ?_); kernel_rfl) | ((with_reducible refine HS.cond1 ?_ ?_); rfl) | ((with_reducible refine HS.cond0 ?_ ?_); rfl) | ((with_reducible apply HS.condB) <;> first | rfl | (with_reducible intro h)) | (with_reducible first | refine r2 ?_ | refine r3 ?_ | refine r4 ?_ | refine r5 ?_ | refine r6 ?_ | refine r7 ?_ | refine r8 ?_ | refine r9 ?_ | refine rA ?_ | refine rB ?_ | refine rC ?_ | refine rD ?_) | ((with_reducible refine blockQ_miss ?_ ?_); rfl) | (with_reducible refine Two.mk' (fun h => ?_) (fun h => ?_) <;> try (exfalso; omega)) | ((with_reducible refine Bsel.mk' (fun h => ?_) (fun h => ?_)) <;> (try simp only [h])) | ((fail_if_success (with_reducible first | refine s1 ?_ | refine s2 ?_ | refine s3 ?_ | refine s4 ?_ | refine s5 ?_ | refine s6 ?_ | refine s7 ?_ | refine s8 ?_ | refine s9 ?_)); simp (disch := omega) only [↓LD, LU, LS, LT, loadA_rf, ↓reduceIte, reduceCtorEq, Nat.reduceAdd, Nat.reduceMul, Nat.reduceSub, Nat.reduceLeDiff, Nat.reduceLT, Nat.reduceEqDiff, Int.reduceNeg, Int.reduceLT, Int.reduceLE, Int.reduceEq, Int.reduceToNat, fR, fI, outN, inV, rd_at0, rd_at1, rd_at2, List.append_nil]) | ((with_reducible refine And.intro ?_ ?_); omega) | ((fail_if_success (with_reducible first | refine s1 ?_ | refine s2 ?_ | refine s3 ?_ | refine s4 ?_ | refine s5 ?_ | refine s6 ?_ | refine s7 ?_ | refine s8 ?_ | refine s9 ?_)); simp only [D.int, D.bool]))
                · refine callW_peek (c_hand_Pick _ i (by omega) (by omega)) (.cons .f (.cons .f .nil)) ?_ ?_
                  · rintro _ _ ⟨rfl, rfl⟩
                    exact ⟨.f .v, by simp⟩
                  rintro _ _ ⟨rfl, rfl⟩
                  repeat' (first | (with_reducible first | refine r1 ?_ | refine rK fun K hK => ?_ | refine wpS_app fun K hK => ?_ | (refine hK _ ?_; clear hK K) | refine rL fun K hK => ?_) | ((with_reducible refine And.intro (Chk.mk' ?_) ?_); kernel_rfl) | ((with_reducible refine HS.cond1 ?_ ?_); rfl) | ((with_reducible refine HS.cond0 ?_ ?_); rfl) | ((with_reducible apply HS.condB) <;> first | rfl | (with_reducible intro h)) | (with_reducible first | refine r2 ?_ | refine r3 ?_ | refine r4 ?_ | refine r5 ?_ | refine r6 ?_ | refine r7 ?_ | refine r8 ?_ | refine r9 ?_ | refine rA ?_ | refine rB ?_ | refine rC ?_ | refine rD ?_) | ((with_reducible refine blockQ_miss ?_ ?_); rfl) | (with_reducible refine Two.mk' (fun h => ?_) (fun h => ?_) <;> try (exfalso; omega)) | ((with_reducible refine Bsel.mk' (fun h => ?_) (fun h => ?_)) <;> (try simp only [h])) | ((fail_if_success (with_reducible first | refine s1 ?_ | refine s2 ?_ | refine s3 ?_ | refine s4 ?_ | refine s5 ?_ | refine s6 ?_ | refine s7 ?_ | refine s8 ?_ | refine s9 ?_)); simp (disch := omega) only [↓LD, LU, LS, LT, loadA_rf, ↓reduceIte, reduceCtorEq, Nat.reduceAdd, Nat.reduceMul, Nat.reduceSub, Nat.reduceLeDiff, Nat.reduceLT, Nat.reduceEqDiff, Int.reduceNeg, Int.reduceLT, Int.reduceLE, Int.reduceEq, Int.reduceToNat, fR, fI, outN, inV, rd_at0, rd_at1, rd_at2, List.append_nil, List.map_nil]) | ((with_reducible refine And.intro ?_ ?_); omega) | ((fail_if_success (with_reducible first | refine s1 ?_ | refine s2 ?_ | refine s3 ?_ | refine s4 ?_ | refine s5 ?_ | refine s6 ?_ | refine s7 ?_ | refine s8 ?_ | refine s9 ?_)); simp only [D.int, D.bool]))
                  · exact Next.mk (m + 1, q + 2, qs ++ [(j : Int)]) (by kernel_rfl) ⟨by dsimp only; omega, by simp [hq], by dsimp only; omega, rise_snoc hs (by omega) (by omega) (rise_last hs hq (by rename_i h; rw [show (((q + 1 : Nat) : Int) - 1).toNat = q by omega] at h; exact h))⟩ (by dsimp only; omega)
                  · exact Next.mk (m + 1, q + 1, qs) (by kernel_rfl) ⟨by dsimp only; omega, hq, by dsimp only; omega, hs⟩ (by dsimp only; omega)
                  · exact Next.mk (m + 1, q + 1, qs) (by kernel_rfl) ⟨by dsimp only; omega, hq, by dsimp only; omega, hs⟩ (by dsimp only; omega)
                · exact Next.mk (j + 1, (q + 1), qs) (by kernel_rfl) ⟨by dsimp only; omega, hq, by dsimp only; omega, hs⟩ (by dsimp only; omega)
                · exact Next.mk (j + 1, (q + 1), qs) (by kernel_rfl) ⟨by dsimp only; omega, hq, by dsimp only; omega, hs⟩ (by dsimp only; omega)
            · exact OutS.mk (j, 0, ns) (by kernel_rfl) ⟨hn, by dsimp only; omega, rise_mono (by omega) hr⟩
          · repeat' (first | (with_reducible first | refine r1 ?_ | refine rK fun K hK => ?_ | refine wpS_app fun K hK => ?_ | (refine hK _ ?_; clear hK K) | refine rL fun K hK => ?_) | ((with_reducible refine And.intro (Chk.mk' ?_) ?_); kernel_rfl) | ((with_reducible refine HS.cond1 ?_ ?_); rfl) | ((with_reducible refine HS.cond0 ?_ ?_); rfl) | ((with_reducible apply HS.condB) <;> first | rfl | (with_reducible intro h)) | (with_reducible first | refine r2 ?_ | refine r3 ?_ | refine r4 ?_ | refine r5 ?_ | refine r6 ?_ | refine r7 ?_ | refine r8 ?_ | refine r9 ?_ | refine rA ?_ | refine rB ?_ | refine rC ?_ | refine rD ?_) | ((with_reducible refine blockQ_miss ?_ ?_); rfl) | (with_reducible refine Two.mk' (fun h => ?_) (fun h => ?_) <;> try (exfalso; omega)) | ((with_reducible refine Bsel.mk' (fun h => ?_) (fun h => ?_)) <;> (try simp only [h])) | ((fail_if_success (with_reducible first | refine s1 ?_ | refine s2 ?_ | refine s3 ?_ | refine s4 ?_ | refine s5 ?_ | refine s6 ?_ | refine s7 ?_ | refine s8 ?_ | refine s9 ?_)); simp (disch := omega) only [↓LD, LU, LS, LT, loadA_rf, ↓reduceIte, reduceCtorEq, Nat.reduceAdd, Nat.reduceMul, Nat.reduceSub, Nat.reduceLeDiff, Nat.reduceLT, Nat.reduceEqDiff, Int.reduceNeg, Int.reduceLT, Int.reduceLE, Int.reduceEq, Int.reduceToNat, fR, outN, inV, List.append_nil]) | ((with_reducible refine And.intro ?_ ?_); omega) | ((fail_if_success (with_reducible first | refine s1 ?_ | refine s2 ?_ | refine s3 ?_ | refine s4 ?_ | refine s5 ?_ | refine s6 ?_ | refine s7 ?_ | refine s8 ?_ | refine s9 ?_)); simp only [D.int, D.bool]))
            · refine HS.loopG [0, 1, 5, 6, 7, 8, 9] (fun x : Nat × Nat × List Int => ⟨frm 158 [(0, .f (fR l)), (1, D.int 7), (5, (outN (nd + 1) ds).1), (6, D.int i), (7, .pt 1 0), (8, D.int j), (9, D.int x.1)], (outN (nd + 1) ds).2 ++ inV (1 + 1) x.2.1 x.2.2 (1 + pick (gt l i).tr 3) (1 + pick (gt l i).le 9), []⟩)
                (fun x => x.1 ≤ 3 ∧ x.2.2.length = x.2.1 ∧ x.2.1 ≤ 3 * j + x.1 ∧ rise (j + 1 : Nat) (-1) x.2.2 = true) (fun x => 3 - x.1) (0, (n + 1), ns) (by kernel_rfl) ⟨by omega, hn, by dsimp only; omega, rise_mono (by omega) hr⟩ ?_
              rintro ⟨m, q, qs⟩ ⟨hm, hq, hqj, hs⟩
              dsimp only at hm hq hqj hs
              have p3 := pick_in (x := gt (gt l i).ns m) (n := i) (by omega)
              rcases q with _ | q
              · repeat' (first | (with_reducible first | refine r1 ?_ | refine rK fun K hK => ?_ | refine wpS_app fun K hK => ?_ | (refine hK _ ?_; clear hK K) | refine rL fun K hK => ?_) | ((with_reducible refine And.intro (Chk.mk' ?_) ?_); kernel_rfl) | ((with_reducible refine HS.cond1 ?_ ?_); rfl) | ((with_reducible refine HS.cond0 ?_ ?_); rfl) | ((with_reducible apply HS.condB) <;> first | rfl | (with_reducible intro h)) | (with_reducible first | refine r2 ?_ | refine r3 ?_ | refine r4 ?_ | refine r5 ?_ | refine r6 ?_ | refine r7 ?_ | refine r8 ?_ | refine r9 ?_ | refine rA ?_ | refine rB ?_ | refine rC ?_ | refine rD ?_) | ((with_reducible refine blockQ_miss ?_ ?_); rfl) | (with_reducible refine Two.mk' (fun h => ?_) (fun h => ?_) <;> try (exfalso; omega)) | ((with_reducible refine Bsel.mk' (fun h => ?_) (fun h => ?_)) <;> (try simp only [h])) | ((fail_if_success (with_reducible first | refine s1 ?_ | refine s2 ?_ | refine s3 ?_ | refine s4 ?_ | refine s5 ?_ | refine s6 ?_ | refine s7 ?_ | refine s8 ?_ | refine s9 ?_)); simp (disch := omega) only [↓LD, LU, LS, LT, loadA_rf, ↓reduceIte, reduceCtorEq, Nat.reduceAdd, Nat.reduceMul, Nat.reduceSub, Nat.reduceLeDiff, Nat.reduceLT, Nat.reduceEqDiff, Int.reduceNeg, Int.reduceLT, Int.reduceLE, Int.reduceEq, Int.reduceToNat, fR, fI, outN, inV, rd_at0, rd_at1, rd_at2, List.append_nil]) | ((with_reducible refine And.intro ?_ ?_); omega) | ((fail_if_success (with_reducible first | refine s1 ?_ | refine s2 ?_ | refine s3 ?_ | refine s4 ?_ | refine s5 ?_ | refine s6 ?_ | refine s7 ?_ | refine s8 ?_ | refine s9 ?_)); simp only [D.int, D.bool]))
                · refine callW_peek (c_hand_Pick _ i (by omega) (by omega)) (.cons .f (.cons .f .nil)) ?_ ?_
                  · rintro _ _ ⟨rfl, rfl⟩
                    exact ⟨.f .v, by simp⟩
                  rintro _ _ ⟨rfl, rfl⟩
                  repeat' (first | (with_reducible first | refine r1 ?_ | refine rK fun K hK => ?_ | refine wpS_app fun K hK => ?_ | (refine hK _ ?_; clear hK K) | refine rL fun K hK => ?_) | ((with_reducible refine And.intro (Chk.mk' ?_) ?_); kernel_rfl) | ((with_reducible refine HS.cond1 ?_ ?_); rfl) | ((with_reducible refine HS.cond0 ?_ ?_); rfl) | ((with_reducible apply HS.condB) <;> first | rfl | (with_reducible intro h)) | (with_reducible first | refine r2 ?_ | refine r3 ?_ | refine r4 ?_ | refine r5 ?_ | refine r6 ?_ | refine r7 ?_ | refine r8 ?_ | refine r9 ?_ | refine rA ?_ | refine rB ?_ | refine rC ?_ | refine rD ?_) | ((with_reducible refine blockQ_miss ?_ ?_); rfl) | (with_reducible refine Two.mk' (fun h => ?_) (fun h => ?_) <;> try (exfalso; omega)) | ((with_reducible refine Bsel.mk' (fun h => ?_) (fun h => ?_)) <;> (try simp only [h])) | ((fail_if_success (with_reducible first | refine s1 ?_ | refine s2 ?_ | refine s3 ?_ | refine s4 ?_ | refine s5 ?_ | refine s6 ?_ | refine s7 ?_ | refine s8 ?_ | refine s9 ?_)); simp (disch := omega) only [↓LD, LU, LS, LT, loadA_rf, ↓reduceIte, reduceCtorEq, Nat.reduceAdd, Nat.reduceMul, Nat.reduceSub, Nat.reduceLeDiff, Nat.reduceLT, Nat.reduceEqDiff, Int.reduceNeg, Int.reduceLT, Int.reduceLE, Int.reduceEq, Int.reduceToNat, fR, fI, outN, inV, rd_at0, rd_at1, rd_at2, List.append_nil, List.map_nil]) | ((with_reducible refine And.intro ?_ ?_); omega) | ((fail_if_success (with_reducible first | refine s1 ?_ | refine s2 ?_ | refine s3 ?_ | refine s4 ?_ | refine s5 ?_ | refine s6 ?_ | refine s7 ?_ | refine s8 ?_ | refine s9 ?_)); simp only [D.int, D.bool]))
                  · exact Next.mk (m + 1, 1, [(j : Int)]) (by kernel_rfl) ⟨by dsimp only; omega, rfl, by dsimp only; omega, rise_one j⟩ (by dsimp only; omega)
                  · exact Next.mk (m + 1, 0, qs) (by kernel_rfl) ⟨by dsimp only; omega, hq, by dsimp only; omega, hs⟩ (by dsimp only; omega)
                · exact Next.mk (j + 1, 0, qs) (by kernel_rfl) ⟨by dsimp only; omega, hq, by dsimp only; omega, hs⟩ (by dsimp only; omega)
                · exact Next.mk (j + 1, 0, qs) (by kernel_rfl) ⟨by dsimp only; omega, hq, by dsimp only; omega, hs⟩ (by dsimp only; omega)
              · repeat' (first | (with_reducible first | refine r1 ?_ | refine rK fun K hK => ?_ | refine wpS_app fun K hK => ?_ | (refine hK _ ?_; clear hK K) | refine rL fun K hK => ?_) | ((with_reducible refine And.intro (Chk.mk' ?_) ?_); kernel_rfl) | ((with_reducible refine HS.cond1 ?_ ?_); rfl) | ((with_reducible refine HS.cond0 ?_ ?_); rfl) | ((with_reducible apply HS.condB) <;> first | rfl | (with_reducible intro h)) | (with_reducible first | refine r2 ?_ | refine r3 ?_ | refine r4 ?_ | refine r5 ?_ | refine r6 ?_ | refine r7 ?_ | refine r8 ?_ | refine r9 ?_ | refine rA ?_ | refine rB ?_ | refine rC ?_ | refine rD ?_) | ((with_reducible refine blockQ_miss ?_ ?_); rfl) | (with_reducible refine Two.mk' (fun h => ?_) (fun h => ?_) <;> try (exfalso; omega)) | ((with_reducible refine Bsel.mk' (fun h => ?_) (fun h => ?_)) <;> (try simp only [h])) | ((fail_if_success (with_reducible first | refine s1 ?_ | refine s2 ?_ | refine s3 ?_ | refine s4 ?_ | refine s5 ?_ | refine s6 ?_ | refine s7 ?_ | refine s8 ?_ | refine s9 ?_)); simp (disch := omega) only [↓LD, LU, LS, LT, loadA_rf, ↓reduceIte, reduceCtorEq, Nat.reduceAdd, Nat.reduceMul, Nat.reduceSub, Nat.reduceLeDiff, Nat.reduceLT, Nat.reduceEqDiff, Int.reduceNeg, Int.reduceLT, Int.reduceLE, Int.reduceEq, Int.reduceToNat, fR, fI, outN, inV, rd_at0, rd_at1, rd_at2, List.append_nil]) | ((with_reducible refine And.intro ?_ ?_); omega) | ((fail_if_success (with_reducible first | refine s1 ?_ | refine s2 ?_ | refine s3 ?_ | refine s4 ?_ | refine s5 ?_ | refine s6 ?_ | refine s7 ?_ | refine s8 ?_ | refine s9 ?_)); simp only [D.int, D.bool]))
                · refine callW_peek (c_hand_Pick _ i (by omega) (by omega)) (.cons .f (.cons .f .nil)) ?_ ?_
                  · rintro _ _ ⟨rfl, rfl⟩
                    exact ⟨.f .v, by simp⟩
                  rintro _ _ ⟨rfl, rfl⟩
                  repeat' (first | (with_reducible first | refine r1 ?_ | refine rK fun K hK => ?_ | refine wpS_app fun K hK => ?_ | (refine hK _ ?_; clear hK K) | refine rL fun K hK => ?_) | ((with_reducible refine And.intro (Chk.mk' ?_) ?_); kernel_rfl) | ((with_reducible refine HS.cond1 ?_ ?_); rfl) | ((with_reducible refine HS.cond0 ?_ ?_); rfl) | ((with_reducible apply HS.condB) <;> first | rfl | (with_reducible intro h)) | (with_reducible first | refine r2 ?_ | refine r3 ?_ | refine r4 ?_ | refine r5 ?_ | refine r6 ?_ | refine r7 ?_ | refine r8 ?_ | refine r9 ?_ | refine rA ?_ | refine rB ?_ | refine rC ?_ | refine rD ?_) | ((with_reducible refine blockQ_miss ?_ ?_); rfl) | (with_reducible refine Two.mk' (fun h => ?_) (fun h => ?_) <;> try (exfalso; omega)) | ((with_reducible refine Bsel.mk' (fun h => ?_) (fun h => ?_)) <;> (try simp only [h])) | ((fail_if_success (with_reducible first | refine s1 ?_ | refine s2 ?_ | refine s3 ?_ | refine s4 ?_ | refine s5 ?_ | refine s6 ?_ | refine s7 ?_ | refine s8 ?_ | refine s9 ?_)); simp (disch := omega) only [↓LD, LU, LS, LT, loadA_rf, ↓reduceIte, reduceCtorEq, Nat.reduceAdd, Nat.reduceMul, Nat.reduceSub, Nat.reduceLeDiff, Nat.reduceLT, Nat.reduceEqDiff, Int.reduceNeg, Int.reduceLT, Int.reduceLE, Int.reduceEq, Int.reduceToNat, fR, fI, outN, inV, rd_at0, rd_at1, rd_at2, List.append_nil, List.map_nil]) | ((with_reducible refine And.intro ?_ ?_); omega) | ((fail_if_success (with_reducible first | refine s1 ?_ | refine s2 ?_ | refine s3 ?_ | refine s4 ?_ | refine s5 ?_ | refine s6 ?_ | refine s7 ?_ | refine s8 ?_ | refine s9 ?_)); simp only [D.int, D.bool]))
                  · exact Next.mk (m + 1, q + 2, qs ++ [(j : Int)]) (by kernel_rfl) ⟨by dsimp only; omega, by simp [hq], by dsimp only; omega, rise_snoc hs (by omega) (by omega) (rise_last hs hq (by rename_i h; rw [show (((q + 1 : Nat) : Int) - 1).toNat = q by omega] at h; exact h))⟩ (by dsimp only; omega)
                  · exact Next.mk (m + 1, q + 1, qs) (by kernel_rfl) ⟨by dsimp only; omega, hq, by dsimp only; omega, hs⟩ (by dsimp only; omega)
                  · exact Next.mk (m + 1, q + 1, qs) (by kernel_rfl) ⟨by dsimp only; omega, hq, by dsimp only; omega, hs⟩ (by dsimp only; omega)
                · exact Next.mk (j + 1, (q + 1), qs) (by kernel_rfl) ⟨by dsimp only; omega, hq, by dsimp only; omega, hs⟩ (by dsimp only; omega)
                · exact Next.mk (j + 1, (q + 1), qs) (by kernel_rfl) ⟨by dsimp only; omega, hq, by dsimp only; omega, hs⟩ (by dsimp only; omega)
            · exact OutS.mk (j, (n + 1), ns) (by kernel_rfl) ⟨hn, by dsimp only; omega, rise_mono (by omega) hr⟩
        · rintro ⟨_, n, ns⟩ ⟨hn, hn2, hr⟩ s' hv
          dsimp only at hn hn2 hr
          refine blockQ_hit ?_
          refine thenQ_n ?_
          refine HS.view hv ?_
          rcases n with _ | n
          · refine HS.view (View.nil0 (r := 1) (i := 0) rfl rfl) ?_
            repeat' (first | (with_reducible first | refine r1 ?_ | refine rK fun K hK => ?_ | refine wpS_app fun K hK => ?_ | (refine hK _ ?_; clear hK K) | refine rL fun K hK => ?_) | ((with_reducible refine And.intro (Chk.mk' ?_) ?_); kernel_rfl) | ((with_reducible refine HS.cond1 ?_ ?_); rfl) | ((with_reducible refine HS.cond0 ?_ ?_); rfl) | ((with_reducible apply HS.condB) <;> first | rfl | (with_reducible intro h)) | (with_reducible first | refine r2 ?_ | refine r3 ?_ | refine r4 ?_ | refine r5 ?_ | refine r6 ?_ | refine r7 ?_ | refine r8 ?_ | refine r9 ?_ | refine rA ?_ | refine rB ?_ | refine rC ?_ | refine rD ?_) | ((with_reducible refine blockQ_miss ?_ ?_); rfl) | (with_reducible refine Two.mk' (fun h => ?_) (fun h => ?_) <;> try (exfalso; omega)) | ((with_reducible refine Bsel.mk' (fun h => ?_) (fun h => ?_)) <;> (try simp only [h])) | ((fail_if_success (with_reducible first | refine s1 ?_ | refine s2 ?_ | refine s3 ?_ | refine s4 ?_ | refine s5 ?_ | refine s6 ?_ | refine s7 ?_ | refine s8 ?_ | refine s9 ?_)); simp (disch := omega) only [↓LD, LU, LS, LT, loadA_rf, ↓reduceIte, reduceCtorEq, Nat.reduceAdd, Nat.reduceMul, Nat.reduceSub, Nat.reduceLeDiff, Nat.reduceLT, Nat.reduceEqDiff, Int.reduceNeg, Int.reduceLT, Int.reduceLE, Int.reduceEq, Int.reduceToNat, fR, outN, inV, List.append_nil, List.set_cons_succ, List.set_cons_zero]) | ((with_reducible refine And.intro ?_ ?_); omega) | ((fail_if_success (with_reducible first | refine s1 ?_ | refine s2 ?_ | refine s3 ?_ | refine s4 ?_ | refine s5 ?_ | refine s6 ?_ | refine s7 ?_ | refine s8 ?_ | refine s9 ?_)); simp only [D.int, D.bool]))
            refine And.intro (by rw [flat_len' Nd.cs_len, hdl]) ?_
            repeat' (first | (with_reducible first | refine r1 ?_ | refine rK fun K hK => ?_ | refine wpS_app fun K hK => ?_ | (refine hK _ ?_; clear hK K) | refine rL fun K hK => ?_) | ((with_reducible refine And.intro (Chk.mk' ?_) ?_); kernel_rfl) | ((with_reducible refine HS.cond1 ?_ ?_); rfl) | ((with_reducible refine HS.cond0 ?_ ?_); rfl) | ((with_reducible apply HS.condB) <;> first | rfl | (with_reducible intro h)) | (with_reducible first | refine r2 ?_ | refine r3 ?_ | refine r4 ?_ | refine r5 ?_ | refine r6 ?_ | refine r7 ?_ | refine r8 ?_ | refine r9 ?_ | refine rA ?_ | refine rB ?_ | refine rC ?_ | refine rD ?_) | ((with_reducible refine blockQ_miss ?_ ?_); rfl) | (with_reducible refine Two.mk' (fun h => ?_) (fun h => ?_) <;> try (exfalso; omega)) | ((with_reducible refine Bsel.mk' (fun h => ?_) (fun h => ?_)) <;> (try simp only [h])) | ((fail_if_success (with_reducible first | refine s1 ?_ | refine s2 ?_ | refine s3 ?_ | refine s4 ?_ | refine s5 ?_ | refine s6 ?_ | refine s7 ?_ | refine s8 ?_ | refine s9 ?_)); simp (disch := omega) only [↓LD, LU, LS, LT, loadA_rf, ↓reduceIte, reduceCtorEq, Nat.reduceAdd, Nat.reduceMul, Nat.reduceSub, Nat.reduceLeDiff, Nat.reduceLT, Nat.reduceEqDiff, Int.reduceNeg, Int.reduceLT, Int.reduceLE, Int.reduceEq, Int.reduceToNat, app_nd0]) | ((with_reducible refine And.intro ?_ ?_); omega) | ((fail_if_success (with_reducible first | refine s1 ?_ | refine s2 ?_ | refine s3 ?_ | refine s4 ?_ | refine s5 ?_ | refine s6 ?_ | refine s7 ?_ | refine s8 ?_ | refine s9 ?_)); simp only [D.int, D.bool]))
            refine Next.mk (i + 1, (nd + 1) + 1, ds ++ [(⟨[], 1 + pick (gt l i).tr 3, 1 + pick (gt l i).le 9⟩ : Nd)]) (by kernel_rfl) ⟨by dsimp only; omega, defok_app hds ⟨rfl, by dsimp only; omega, by dsimp only; omega, by dsimp only; omega, by dsimp only; omega⟩, by simp [hdl], by dsimp only; omega⟩ (by dsimp only; omega)
          · repeat' (first | (with_reducible first | refine r1 ?_ | refine rK fun K hK => ?_ | refine wpS_app fun K hK => ?_ | (refine hK _ ?_; clear hK K) | refine rL fun K hK => ?_) | ((with_reducible refine And.intro (Chk.mk' ?_) ?_); kernel_rfl) | ((with_reducible refine HS.cond1 ?_ ?_); rfl) | ((with_reducible refine HS.cond0 ?_ ?_); rfl) | ((with_reducible apply HS.condB) <;> first | rfl | (with_reducible intro h)) | (with_reducible first | refine r2 ?_ | refine r3 ?_ | refine r4 ?_ | refine r5 ?_ | refine r6 ?_ | refine r7 ?_ | refine r8 ?_ | refine r9 ?_ | refine rA ?_ | refine rB ?_ | refine rC ?_ | refine rD ?_) | ((with_reducible refine blockQ_miss ?_ ?_); rfl) | (with_reducible refine Two.mk' (fun h => ?_) (fun h => ?_) <;> try (exfalso; omega)) | ((with_reducible refine Bsel.mk' (fun h => ?_) (fun h => ?_)) <;> (try simp only [h])) | ((fail_if_success (with_reducible first | refine s1 ?_ | refine s2 ?_ | refine s3 ?_ | refine s4 ?_ | refine s5 ?_ | refine s6 ?_ | refine s7 ?_ | refine s8 ?_ | refine s9 ?_)); simp (disch := omega) only [↓LD, LU, LS, LT, loadA_rf, ↓reduceIte, reduceCtorEq, Nat.reduceAdd, Nat.reduceMul, Nat.reduceSub, Nat.reduceLeDiff, Nat.reduceLT, Nat.reduceEqDiff, Int.reduceNeg, Int.reduceLT, Int.reduceLE, Int.reduceEq, Int.reduceToNat, fR, outN, inV, List.append_nil]) | ((with_reducible refine And.intro ?_ ?_); omega) | ((fail_if_success (with_reducible first | refine s1 ?_ | refine s2 ?_ | refine s3 ?_ | refine s4 ?_ | refine s5 ?_ | refine s6 ?_ | refine s7 ?_ | refine s8 ?_ | refine s9 ?_)); simp only [D.int, D.bool]))
            refine bind'_of (freeze_sl (b := 8) (z := [.int .i64 0]) rfl (by kernel_rfl) (by rw [List.length_map]; exact hn)) ?_
            repeat' (first | (with_reducible first | refine r1 ?_ | refine rK fun K hK => ?_ | refine wpS_app fun K hK => ?_ | (refine hK _ ?_; clear hK K) | refine rL fun K hK => ?_) | ((with_reducible refine And.intro (Chk.mk' ?_) ?_); kernel_rfl) | ((with_reducible refine HS.cond1 ?_ ?_); rfl) | ((with_reducible refine HS.cond0 ?_ ?_); rfl) | ((with_reducible apply HS.condB) <;> first | rfl | (with_reducible intro h)) | (with_reducible first | refine r2 ?_ | refine r3 ?_ | refine r4 ?_ | refine r5 ?_ | refine r6 ?_ | refine r7 ?_ | refine r8 ?_ | refine r9 ?_ | refine rA ?_ | refine rB ?_ | refine rC ?_ | refine rD ?_) | ((with_reducible refine blockQ_miss ?_ ?_); rfl) | (with_reducible refine Two.mk' (fun h => ?_) (fun h => ?_) <;> try (exfalso; omega)) | ((with_reducible refine Bsel.mk' (fun h => ?_) (fun h => ?_)) <;> (try simp only [h])) | ((fail_if_success (with_reducible first | refine s1 ?_ | refine s2 ?_ | refine s3 ?_ | refine s4 ?_ | refine s5 ?_ | refine s6 ?_ | refine s7 ?_ | refine s8 ?_ | refine s9 ?_)); simp (disch := omega) only [↓LD, LU, LS, LT, loadA_rf, ↓reduceIte, reduceCtorEq, Nat.reduceAdd, Nat.reduceMul, Nat.reduceSub, Nat.reduceLeDiff, Nat.reduceLT, Nat.reduceEqDiff, Int.reduceNeg, Int.reduceLT, Int.reduceLE, Int.reduceEq, Int.reduceToNat, applyUpd, List.append_nil]) | ((with_reducible refine And.intro ?_ ?_); omega) | ((fail_if_success (with_reducible first | refine s1 ?_ | refine s2 ?_ | refine s3 ?_ | refine s4 ?_ | refine s5 ?_ | refine s6 ?_ | refine s7 ?_ | refine s8 ?_ | refine s9 ?_)); simp only [D.int, D.bool]))
            refine And.intro (by rw [flat_len' Nd.cs_len, hdl]) ?_
            repeat' (first | (with_reducible first | refine r1 ?_ | refine rK fun K hK => ?_ | refine wpS_app fun K hK => ?_ | (refine hK _ ?_; clear hK K) | refine rL fun K hK => ?_) | ((with_reducible refine And.intro (Chk.mk' ?_) ?_); kernel_rfl) | ((with_reducible refine HS.cond1 ?_ ?_); rfl) | ((with_reducible refine HS.cond0 ?_ ?_); rfl) | ((with_reducible apply HS.condB) <;> first | rfl | (with_reducible intro h)) | (with_reducible first | refine r2 ?_ | refine r3 ?_ | refine r4 ?_ | refine r5 ?_ | refine r6 ?_ | refine r7 ?_ | refine r8 ?_ | refine r9 ?_ | refine rA ?_ | refine rB ?_ | refine rC ?_ | refine rD ?_) | ((with_reducible refine blockQ_miss ?_ ?_); rfl) | (with_reducible refine Two.mk' (fun h => ?_) (fun h => ?_) <;> try (exfalso; omega)) | ((with_reducible refine Bsel.mk' (fun h => ?_) (fun h => ?_)) <;> (try simp only [h])) | ((fail_if_success (with_reducible first | refine s1 ?_ | refine s2 ?_ | refine s3 ?_ | refine s4 ?_ | refine s5 ?_ | refine s6 ?_ | refine s7 ?_ | refine s8 ?_ | refine s9 ?_)); simp (disch := omega) only [↓LD, LU, LS, LT, loadA_rf, ↓reduceIte, reduceCtorEq, Nat.reduceAdd, Nat.reduceMul, Nat.reduceSub, Nat.reduceLeDiff, Nat.reduceLT, Nat.reduceEqDiff, Int.reduceNeg, Int.reduceLT, Int.reduceLE, Int.reduceEq, Int.reduceToNat, app_nd hn]) | ((with_reducible refine And.intro ?_ ?_); omega) | ((fail_if_success (with_reducible first | refine s1 ?_ | refine s2 ?_ | refine s3 ?_ | refine s4 ?_ | refine s5 ?_ | refine s6 ?_ | refine s7 ?_ | refine s8 ?_ | refine s9 ?_)); simp only [D.int, D.bool]))
            exact Next.mk (i + 1, (nd + 1) + 1, ds ++ [(⟨ns, 1 + pick (gt l i).tr 3, 1 + pick (gt l i).le 9⟩ : Nd)]) (by kernel_rfl) ⟨by dsimp only; omega, defok_app hds ⟨by rw [hdl, hni]; exact hr, by dsimp only; omega, by dsimp only; omega, by dsimp only; omega, by dsimp only; omega⟩, by simp [hdl], by dsimp only; omega⟩ (by dsimp only; omega)
      all_goals exact OutS.mk ((nd + 1), ds) (by kernel_rfl) ⟨hds, hdl, by dsimp only; omega⟩
  · rintro ⟨n, ds⟩ ⟨hds, hdl, hn⟩ s' hv
    dsimp only at hdl hn
    refine blockQ_hit ?_
    refine thenQ_n ?_
    refine HS.view hv ?_
    refine HS.seq ?_
    refine HS.cutn (fun x : Nat × List Nd => ⟨frm 158 [(1, D.int 7), (5, .sl 0 0 (x.1 + 1))], [.data 30 (x.2.flatMap Nd.cs)], []⟩) (fun x => DefOk x.2 ∧ x.2.length = x.1 + 1 ∧ x.1 < 6) ?_ ?_
    · rcases n with _ | n
      · repeat' (first | (with_reducible first | refine r1 ?_ | refine rK fun K hK => ?_ | refine wpS_app fun K hK => ?_ | (refine hK _ ?_; clear hK K) | refine rL fun K hK => ?_) | ((with_reducible refine And.intro (Chk.mk' ?_) ?_); kernel_rfl) | ((with_reducible refine HS.cond1 ?_ ?_); rfl) | ((with_reducible refine HS.cond0 ?_ ?_); rfl) | ((with_reducible apply HS.condB) <;> first | rfl | (with_reducible intro h)) | (with_reducible first | refine r2 ?_ | refine r3 ?_ | refine r4 ?_ | refine r5 ?_ | refine r6 ?_ | refine r7 ?_ | refine r8 ?_ | refine r9 ?_ | refine rA ?_ | refine rB ?_ | refine rC ?_ | refine rD ?_) | ((with_reducible refine blockQ_miss ?_ ?_); rfl) | (with_reducible refine Two.mk' (fun h => ?_) (fun h => ?_) <;> try (exfalso; omega)) | ((with_reducible refine Bsel.mk' (fun h => ?_) (fun h => ?_)) <;> (try simp only [h])) | ((fail_if_success (with_reducible first | refine s1 ?_ | refine s2 ?_ | refine s3 ?_ | refine s4 ?_ | refine s5 ?_ | refine s6 ?_ | refine s7 ?_ | refine s8 ?_ | refine s9 ?_)); simp (disch := omega) only [↓LD, LU, LS, LT, loadA_rf, ↓reduceIte, reduceCtorEq, Nat.reduceAdd, Nat.reduceMul, Nat.reduceSub, Nat.reduceLeDiff, Nat.reduceLT, Nat.reduceEqDiff, Int.reduceNeg, Int.reduceLT, Int.reduceLE, Int.reduceEq, Int.reduceToNat, outN]) | ((with_reducible refine And.intro ?_ ?_); omega) | ((fail_if_success (with_reducible first | refine s1 ?_ | refine s2 ?_ | refine s3 ?_ | refine s4 ?_ | refine s5 ?_ | refine s6 ?_ | refine s7 ?_ | refine s8 ?_ | refine s9 ?_)); simp only [D.int, D.bool]))
        exact OutN.via [1, 5] (s1 := ⟨frm 158 [(1, D.int 7), (5, .sl 0 0 1)], [.data 30 [.v (.slice none 0 0), iF 1, iF 5]], []⟩) (0, [(⟨[], 1, 5⟩ : Nd)]) (by kernel_rfl) (View.nild (ts := frm 158 [(1, D.int 7), (5, .sl 0 0 1)]) (H := [.data 30 [.v (.slice none 0 0), iF 1, iF 5]]) (dr := []) (r := 0) (i := 0) (T := 30) (xs := [.v (.slice none 0 0), iF 1, iF 5]) rfl rfl) ⟨defok_one, rfl, by dsimp only; omega⟩
      · repeat' (first | (with_reducible first | refine r1 ?_ | refine rK fun K hK => ?_ | refine wpS_app fun K hK => ?_ | (refine hK _ ?_; clear hK K) | refine rL fun K hK => ?_) | ((with_reducible refine And.intro (Chk.mk' ?_) ?_); kernel_rfl) | ((with_reducible refine HS.cond1 ?_ ?_); rfl) | ((with_reducible refine HS.cond0 ?_ ?_); rfl) | ((with_reducible apply HS.condB) <;> first | rfl | (with_reducible intro h)) | (with_reducible first | refine r2 ?_ | refine r3 ?_ | refine r4 ?_ | refine r5 ?_ | refine r6 ?_ | refine r7 ?_ | refine r8 ?_ | refine r9 ?_ | refine rA ?_ | refine rB ?_ | refine rC ?_ | refine rD ?_) | ((with_reducible refine blockQ_miss ?_ ?_); rfl) | (with_reducible refine Two.mk' (fun h => ?_) (fun h => ?_) <;> try (exfalso; omega)) | ((with_reducible refine Bsel.mk' (fun h => ?_) (fun h => ?_)) <;> (try simp only [h])) | ((fail_if_success (with_reducible first | refine s1 ?_ | refine s2 ?_ | refine s3 ?_ | refine s4 ?_ | refine s5 ?_ | refine s6 ?_ | refine s7 ?_ | refine s8 ?_ | refine s9 ?_)); simp (disch := omega) only [↓LD, LU, LS, LT, loadA_rf, ↓reduceIte, reduceCtorEq, Nat.reduceAdd, Nat.reduceMul, Nat.reduceSub, Nat.reduceLeDiff, Nat.reduceLT, Nat.reduceEqDiff, Int.reduceNeg, Int.reduceLT, Int.reduceLE, Int.reduceEq, Int.reduceToNat, outN]) | ((with_reducible refine And.intro ?_ ?_); omega) | ((fail_if_success (with_reducible first | refine s1 ?_ | refine s2 ?_ | refine s3 ?_ | refine s4 ?_ | refine s5 ?_ | refine s6 ?_ | refine s7 ?_ | refine s8 ?_ | refine s9 ?_)); simp only [D.int, D.bool]))
        exact OutN.mk [1, 5] (n, ds) (by kernel_rfl) ⟨hds, hdl, by dsimp only; omega⟩
    · rintro ⟨n, ds⟩ ⟨hds, hdl, hn⟩ s' hv
      dsimp only at hds hdl hn
      refine thenQ_n ?_
      refine HS.view hv ?_
      clear hv
      repeat' (first | (with_reducible first | refine r1 ?_ | refine rK fun K hK => ?_ | refine wpS_app fun K hK => ?_ | (refine hK _ ?_; clear hK K) | refine rL fun K hK => ?_) | ((with_reducible refine And.intro (Chk.mk' ?_) ?_); kernel_rfl) | ((with_reducible refine HS.cond1 ?_ ?_); rfl) | ((with_reducible refine HS.cond0 ?_ ?_); rfl) | ((with_reducible apply HS.condB) <;> first | rfl | (with_reducible intro h)) | (with_reducible first | refine r2 ?_ | refine r3 ?_ | refine r4 ?_ | refine r5 ?_ | refine r6 ?_ | refine r7 ?_ | refine r8 ?_ | refine r9 ?_ | refine rA ?_ | refine rB ?_ | refine rC ?_ | refine rD ?_) | ((with_reducible refine blockQ_miss ?_ ?_); rfl) | (with_reducible refine Two.mk' (fun h => ?_) (fun h => ?_) <;> try (exfalso; omega)) | ((with_reducible refine Bsel.mk' (fun h => ?_) (fun h => ?_)) <;> (try simp only [h])) | ((fail_if_success (with_reducible first | refine s1 ?_ | refine s2 ?_ | refine s3 ?_ | refine s4 ?_ | refine s5 ?_ | refine s6 ?_ | refine s7 ?_ | refine s8 ?_ | refine s9 ?_)); simp (disch := omega) only [↓LD, LU, LS, LT, loadA_rf, ↓reduceIte, reduceCtorEq, Nat.reduceAdd, Nat.reduceMul, Nat.reduceSub, Nat.reduceLeDiff, Nat.reduceLT, Nat.reduceEqDiff, Int.reduceNeg, Int.reduceLT, Int.reduceLE, Int.reduceEq, Int.reduceToNat]) | ((with_reducible refine And.intro ?_ ?_); omega) | ((fail_if_success (with_reducible first | refine s1 ?_ | refine s2 ?_ | refine s3 ?_ | refine s4 ?_ | refine s5 ?_ | refine s6 ?_ | refine s7 ?_ | refine s8 ?_ | refine s9 ?_)); simp only [D.int, D.bool]))
      refine callW_peek (c_hand_Pick _ ((n + 1 : Nat) : Int) (by omega) (by omega)) (.cons .f (.cons .f .nil)) ?_ ?_
      · rintro _ _ ⟨rfl, rfl⟩
        exact ⟨.f .v, by simp⟩
      rintro _ _ ⟨rfl, rfl⟩
      have pk := pick_in (x := IntKind.i64.wrap ((7 : Int).tdiv 20)) (n := ((n + 1 : Nat) : Int)) (by omega)
      obtain ⟨k, hk⟩ := Int.eq_ofNat_of_zero_le pk.1
      rw [hk] at pk ⊢
      clear hk
      repeat' (first | (with_reducible first | refine r1 ?_ | refine rK fun K hK => ?_ | refine wpS_app fun K hK => ?_ | (refine hK _ ?_; clear hK K) | refine rL fun K hK => ?_) | ((with_reducible refine And.intro (Chk.mk' ?_) ?_); kernel_rfl) | ((with_reducible refine HS.cond1 ?_ ?_); rfl) | ((with_reducible refine HS.cond0 ?_ ?_); rfl) | ((with_reducible apply HS.condB) <;> first | rfl | (with_reducible intro h)) | (with_reducible first | refine r2 ?_ | refine r3 ?_ | refine r4 ?_ | refine r5 ?_ | refine r6 ?_ | refine r7 ?_ | refine r8 ?_ | refine r9 ?_ | refine rA ?_ | refine rB ?_ | refine rC ?_ | refine rD ?_) | ((with_reducible refine blockQ_miss ?_ ?_); rfl) | (with_reducible refine Two.mk' (fun h => ?_) (fun h => ?_) <;> try (exfalso; omega)) | ((with_reducible refine Bsel.mk' (fun h => ?_) (fun h => ?_)) <;> (try simp only [h])) | ((fail_if_success (with_reducible first | refine s1 ?_ | refine s2 ?_ | refine s3 ?_ | refine s4 ?_ | refine s5 ?_ | refine s6 ?_ | refine s7 ?_ | refine s8 ?_ | refine s9 ?_)); simp (disch := omega) only [↓LD, LU, LS, LT, loadA_rf, ↓reduceIte, reduceCtorEq, Nat.reduceAdd, Nat.reduceMul, Nat.reduceSub, Nat.reduceLeDiff, Nat.reduceLT, Nat.reduceEqDiff, Int.reduceNeg, Int.reduceLT, Int.reduceLE, Int.reduceEq, Int.reduceToNat, D.int]) | ((with_reducible refine And.intro ?_ ?_); omega) | ((fail_if_success (with_reducible first | refine s1 ?_ | refine s2 ?_ | refine s3 ?_ | refine s4 ?_ | refine s5 ?_ | refine s6 ?_ | refine s7 ?_ | refine s8 ?_ | refine s9 ?_)); simp only [D.int, D.bool]))
      refine callW_peek (c_hand_Pick _ 20 (by omega) (by omega)) (.cons .f (.cons .f .nil)) ?_ ?_
      · rintro _ _ ⟨rfl, rfl⟩
        exact ⟨.f .v, by simp⟩
      rintro _ _ ⟨rfl, rfl⟩
      rw [show pick 7 20 = 7 from rfl]
      have hk : k < ds.length := by omega
      repeat' (first | (with_reducible first | refine r1 ?_ | refine rK fun K hK => ?_ | refine wpS_app fun K hK => ?_ | (refine hK _ ?_; clear hK K) | refine rL fun K hK => ?_) | ((with_reducible refine And.intro (Chk.mk' ?_) ?_); kernel_rfl) | ((with_reducible refine HS.cond1 ?_ ?_); rfl) | ((with_reducible refine HS.cond0 ?_ ?_); rfl) | ((with_reducible apply HS.condB) <;> first | rfl | (with_reducible intro h)) | (with_reducible first | refine r2 ?_ | refine r3 ?_ | refine r4 ?_ | refine r5 ?_ | refine r6 ?_ | refine r7 ?_ | refine r8 ?_ | refine r9 ?_ | refine rA ?_ | refine rB ?_ | refine rC ?_ | refine rD ?_) | ((with_reducible refine blockQ_miss ?_ ?_); rfl) | (with_reducible refine Two.mk' (fun h => ?_) (fun h => ?_) <;> try (exfalso; omega)) | ((with_reducible refine Bsel.mk' (fun h => ?_) (fun h => ?_)) <;> (try simp only [h])) | ((fail_if_success (with_reducible first | refine s1 ?_ | refine s2 ?_ | refine s3 ?_ | refine s4 ?_ | refine s5 ?_ | refine s6 ?_ | refine s7 ?_ | refine s8 ?_ | refine s9 ?_)); simp (disch := omega) only [↓LD, LU, LS, LT, loadA_rf, ↓reduceIte, reduceCtorEq, Nat.reduceAdd, Nat.reduceMul, Nat.reduceSub, Nat.reduceLeDiff, Nat.reduceLT, Nat.reduceEqDiff, Int.reduceNeg, Int.reduceLT, Int.reduceLE, Int.reduceEq, Int.reduceToNat, D.int, flat_len' Nd.cs_len, nd_set1, nd_set2]) | ((with_reducible refine And.intro ?_ ?_); omega) | ((fail_if_success (with_reducible first | refine s1 ?_ | refine s2 ?_ | refine s3 ?_ | refine s4 ?_ | refine s5 ?_ | refine s6 ?_ | refine s7 ?_ | refine s8 ?_ | refine s9 ?_)); simp only [D.int, D.bool]))
      exact end1 rfl rfl (by kernel_rfl) (.sl rfl (fun e => by omega)) ⟨ds, by rw [List.drop_zero, fG, hdl], hds, by omega, by omega, rfl⟩
end Go.Proofs.Ytjbkckhpoicaeaa.Mir

/- Graphs whose nodes need earlier ones alone: their order, their depth, one node more; in plain lists. -/
namespace Go.Proofs.Ytjbkckhpoicaeaa.Mir
open Go Go.RowKit
set_option linter.unusedVariables false
set_option linter.unusedSimpArgs false

/-- The first i of n are done. -/
def dn (n i : Nat) : List Bool := List.replicate i true ++ List.replicate (n - i) false
theorem dn_len {n i : Nat} (h : i ≤ n) : (dn n i).length = n := by simp [dn]; omega
theorem dn_lt {n i k : Nat} (h : k < i) : gt (dn n i) k = true := by
  rw [gt_eq (by simp [dn]; omega)]
  simp only [dn]
  rw [List.getElem_append_left (by simpa using h), List.getElem_replicate]
theorem dn_ge {n i k : Nat} (h : i ≤ k) (hk : k < n) : gt (dn n i) k = false := by
  rw [gt_eq (by simp [dn]; omega)]
  simp only [dn]
  rw [List.getElem_append_right (by simpa using h), List.getElem_replicate]
theorem dn_set {n i : Nat} (h : i < n) : (dn n i).set i true = dn n (i + 1) := by
  apply List.ext_getElem
  · simp [dn]; omega
  · intro k h1 h2
    have hk : k < n := by simpa [dn_len (show i ≤ n by omega)] using h1
    have e1 : (dn n (i + 1))[k] = gt (dn n (i + 1)) k := (gt_eq h2).symm
    rw [e1, List.getElem_set]
    split
    · rename_i e; subst e; rw [dn_lt (by omega)]
    · rename_i e
      have e2 : (dn n i)[k]'(by rw [dn_len (by omega)]; exact hk) = gt (dn n i) k := (gt_eq (by rw [dn_len (by omega)]; exact hk)).symm
      rw [e2]
      by_cases hlt : k < i
      · rw [dn_lt hlt, dn_lt (by omega)]
      · rw [dn_ge (by omega) hk, dn_ge (by omega) hk]
theorem dn_zero {n : Nat} : dn n 0 = List.replicate n false := by simp [dn]
theorem nxt_to (done : List Bool) : ∀ (i k : Nat) (l : List Nd), (∀ j, j < i → gt done (k + j) = true) → i < l.length → gt done (k + i) = false → metB done (gt l i).ns = true → nxt done k l = ((k + i : Nat) : Int)
  | 0, k, d :: l, _, _, h2, h3 => by
    rw [nxt]
    have h3 : metB done d.ns = true := h3
    have h2 : gt done k = false := h2
    rw [h2, h3]
    rfl
  | i + 1, k, d :: l, h1, hl, h2, h3 => by
    have := nxt_to done i (k + 1) l (fun j hj => by have := h1 (j + 1) (by omega); rw [show k + 1 + j = k + (j + 1) by omega]; exact this) (by simpa using hl) (by rw [show k + 1 + i = k + (i + 1) by omega]; exact h2) h3
    rw [nxt]
    have h0 : gt done k = true := h1 0 (by omega)
    rw [h0]
    simp only [Bool.not_true, Bool.false_and, Bool.false_eq_true, ↓reduceIte]
    rw [this]; congr 1; omega
  | _, _, [], _, hl, _, _ => by simp at hl
theorem met_dn {n i : Nat} {ns : List Int} (hi : i ≤ n) (h : rise i (-1) ns = true) : metB (dn n i) ns = true := by
  refine List.all_eq_true.2 fun x hx => ?_
  have h1 := needs_in h x hx
  simp only [inB, Bool.and_eq_true, decide_eq_true_eq]
  rw [dn_len hi]
  exact ⟨by omega, dn_lt (by omega)⟩
theorem sq_ok {ds : List Nd} (h : DefOk ds) : ∀ (m i : Nat), i + m = ds.length → sqF ds m (dn ds.length i) = (List.range' i m).map fun k : Nat => (k : Int)
  | 0, i, _ => rfl
  | m + 1, i, hm => by
    have h1 : nxt (dn ds.length i) 0 ds = (i : Int) := by
      have := nxt_to (dn ds.length i) i 0 ds (fun j hj => by rw [Nat.zero_add]; exact dn_lt hj) (by omega) (by rw [Nat.zero_add]; exact dn_ge (Nat.le_refl _) (by omega)) (met_dn (by omega) (h i (by omega)).1)
      rw [Nat.zero_add] at this
      exact this
    rw [sqF, h1, if_neg (by omega), show ((i : Int)).toNat = i by omega, dn_set (by omega), sq_ok h m (i + 1) (by omega)]
    rfl
theorem order_ok {ds : List Nd} (h : DefOk ds) : orderL ds = (List.range ds.length).map fun k : Nat => (k : Int) := by
  rw [orderL_seq, ← dn_zero, sq_ok h ds.length 0 (by omega), List.range_eq_range']
theorem check_ok {ds : List Nd} (h : DefOk ds) (h1 : 1 ≤ ds.length) (h8 : ds.length ≤ 8) : checkL ds = 0 := by
  have ha : ds.all (fun d => rightB d ds.length) = true := List.all_eq_true.2 fun d hd => by
    obtain ⟨i, hi, rfl⟩ := List.mem_iff_getElem.1 hd
    have hk := h i hi
    rw [gt_eq hi] at hk
    simp only [rightB, Bool.and_eq_true, decide_eq_true_eq]
    exact ⟨rise_mono (by omega) hk.1, ⟨⟨⟨hk.2.1, hk.2.2.1⟩, hk.2.2.2.1⟩, hk.2.2.2.2⟩⟩
  rw [checkL, if_neg (by omega), ha, order_ok h]
  simp
theorem mxN_len (k : Nat) : ∀ (ns deep : List Int), (mxN k deep ns).length = deep.length
  | [], _ => rfl
  | x :: ns, deep => by rw [mxN, mxN_len k ns, List.length_set]
theorem gt_appl {l m : List Int} {k : Nat} (h : k < l.length) : gt (l ++ m) k = gt l k := by
  rw [gt_eq (by simp; omega), gt_eq h, List.getElem_append_left h]
theorem gt_appr {l : List Int} {x : Int} : gt (l ++ [x]) l.length = x := by
  rw [gt_eq (by simp)]; simp
theorem mxN_app (k : Nat) (m : List Int) : ∀ (ns deep : List Int), k < deep.length → (∀ x ∈ ns, 0 ≤ x ∧ x < deep.length) → mxN k (deep ++ m) ns = mxN k deep ns ++ m
  | [], _, _, _ => rfl
  | x :: ns, deep, hk, hn => by
    have hx := hn x (by simp)
    rw [mxN, mxN, gt_appl hk, gt_appl (by omega), List.set_append_left _ _ hk]
    exact mxN_app k m ns _ (by rw [List.length_set]; exact hk) fun y hy => by rw [List.length_set]; exact hn y (by simp [hy])
theorem deepS_len (ds : List Nd) (deep : List Int) (k : Int) : (deepS ds deep k).length = deep.length := by rw [deepS, List.length_set, mxN_len]
theorem deepS_app {ds : List Nd} {d : Nd} {deep m : List Int} {k : Nat} (hk : k < deep.length) (hl : deep.length = ds.length) (hn : ∀ x ∈ (gt ds k).ns, 0 ≤ x ∧ x < deep.length) :
    deepS (ds ++ [d]) (deep ++ m) k = deepS ds deep k ++ m := by
  rw [deepS, deepS, show ((k : Int)).toNat = k by omega, gt_app (by omega), mxN_app k m _ _ hk hn, gt_appl (by rw [mxN_len]; exact hk), List.set_append_left _ _ (by rw [mxN_len]; exact hk)]
theorem fold_app {ds : List Nd} {d : Nd} (h : DefOk ds) (m : List Int) : ∀ (l : List Nat) (deep : List Int), deep.length = ds.length → (∀ k ∈ l, k < ds.length) →
    (l.map fun k : Nat => (k : Int)).foldl (deepS (ds ++ [d])) (deep ++ m) = (l.map fun k : Nat => (k : Int)).foldl (deepS ds) deep ++ m
  | [], _, _, _ => rfl
  | k :: l, deep, hd, hl => by
    have hk := hl k (by simp)
    simp only [List.map_cons, List.foldl_cons]
    rw [deepS_app (by omega) hd fun x hx => by
      have := needs_in (h k hk).1 x hx; omega]
    exact fold_app h m l _ (by rw [deepS_len]; exact hd) fun j hj => hl j (by simp [hj])
theorem fold_len (ds : List Nd) : ∀ (l : List Int) (deep : List Int), (l.foldl (deepS ds) deep).length = deep.length
  | [], _ => rfl
  | k :: l, deep => by rw [List.foldl_cons, fold_len ds l, deepS_len]
/-- The last one: one more than the deepest of what it needs. -/
theorem mxN_at (k : Nat) : ∀ (ns deep : List Int) (t : Int), k < deep.length → (∀ y ∈ deep, 0 ≤ y ∧ y ≤ t) → (∀ x ∈ ns, 0 ≤ x ∧ x < deep.length) → 0 ≤ gt (mxN k deep ns) k ∧ gt (mxN k deep ns) k ≤ t
  | [], deep, t, hk, hd, _ => hd _ (gt_mem hk)
  | x :: ns, deep, t, hk, hd, hn => by
    have hx := hn x (by simp)
    have h1 := hd _ (gt_mem hk)
    have h2 := hd _ (gt_mem (show x.toNat < deep.length by omega))
    refine mxN_at k ns _ t (by rw [List.length_set]; exact hk) (fun y hy => ?_) fun y hy => by rw [List.length_set]; exact hn y (by simp [hy])
    rcases List.mem_or_eq_of_mem_set hy with hy | rfl
    · exact hd y hy
    · omega
theorem mxN_keep (k : Nat) : ∀ (ns deep : List Int) (z : Int), k = deep.length → ∃ z', mxN k (deep ++ [z]) ns = deep ++ [z']
  | [], deep, z, _ => ⟨z, rfl⟩
  | x :: ns, deep, z, hk => by
    rw [mxN, hk, List.set_append_right _ _ (Nat.le_refl _), Nat.sub_self, List.set_cons_zero, ← hk]
    exact mxN_keep k ns deep _ hk
theorem mxF_app (x : Int) : ∀ (l : List Int) (m : Int), mxF m (l ++ [x]) = max (mxF m l) x
  | [], m => by rfl
  | y :: l, m => by rw [List.cons_append, mxF, mxF_app x l, mxF]
theorem maxL_app {l : List Int} {x : Int} (h : l ≠ []) : maxL (l ++ [x]) = max (maxL l) x := by
  cases l with
  | nil => exact absurd rfl h
  | cons y l => exact mxF_app x l y
theorem depth_grows {ds : List Nd} {d : Nd} (h : DefOk ds) (hd : OkNd ds.length d) (h1 : 1 ≤ ds.length) (h8 : ds.length + 1 ≤ 8) : depthL ds ≤ depthL (ds ++ [d]) ∧ depthL (ds ++ [d]) ≤ depthL ds + 1 := by
  have h2 := defok_app h hd
  have hl : (ds ++ [d]).length = ds.length + 1 := by simp
  have c1 := check_ok h h1 (by omega)
  have c2 := check_ok h2 (by omega) (by omega)
  have hdp := deepL_dp c1
  have e1 : deepL (ds ++ [d]) = deepS (ds ++ [d]) (deepL ds ++ [0]) ds.length := by
    rw [deepL, order_ok h2, hl, List.range_succ, List.map_append, List.foldl_append, List.replicate_succ', fold_app h [0] (List.range ds.length) _ List.length_replicate fun k hk => List.mem_range.1 hk]
    rw [deepL, order_ok h]
    rfl
  have hlen : (deepL ds).length = ds.length := hdp.1
  obtain ⟨z, hz⟩ := mxN_keep ds.length d.ns (deepL ds) 0 hlen.symm
  have hmx : ∀ y ∈ deepL ds ++ [0], 0 ≤ y ∧ y ≤ maxL (deepL ds) := by
    intro y hy
    have hne : deepL ds ≠ [] := fun e => by rw [e] at hlen; simp at hlen; omega
    have h0 : 0 ≤ maxL (deepL ds) := by
      obtain ⟨x, hx⟩ := List.exists_mem_of_ne_nil _ hne
      have := (hdp.2 x hx).1
      have := maxL_ge hx
      omega
    rcases List.mem_append.1 hy with hy | hy
    · exact ⟨(hdp.2 y hy).1, maxL_ge hy⟩
    · obtain rfl := List.mem_singleton.1 hy
      exact ⟨by omega, h0⟩
  have hat := mxN_at ds.length d.ns (deepL ds ++ [0]) (maxL (deepL ds)) (by simp [hlen]) hmx (fun x hx => by
    have := needs_in hd.1 x hx
    simp only [List.length_append, hlen, List.length_singleton]; omega)
  have e2 : deepL (ds ++ [d]) = deepL ds ++ [z + 1] := by
    rw [e1, deepS, show ((ds.length : Int)).toNat = ds.length by omega, gt_app_last, hz]
    have := gt_appr (l := deepL ds) (x := z)
    rw [hlen] at this
    rw [this, List.set_append_right _ _ (by omega), hlen, Nat.sub_self]
    rfl
  rw [hz] at hat
  have := gt_appr (l := deepL ds) (x := z)
  rw [hlen] at this
  rw [this] at hat
  rw [depthL, depthL, if_pos c1, if_pos c2, e2, maxL_app (fun e => by rw [e] at hlen; simp at hlen; omega)]
  omega
theorem ahead_grows {ds : List Nd} {d : Nd} (h : DefOk ds) (hd : OkNd ds.length d) (h8 : ds.length + 1 ≤ 8) {s : List Int} (hs : AheadP (ds ++ [d]) ds.length s) : d.ns.length ≤ s.length := by
  have h2 := defok_app h hd
  have hl : (ds ++ [d]).length = ds.length + 1 := by simp
  have c2 := check_ok h2 (by omega) (by omega)
  rw [AheadP, if_pos ⟨c2, by omega, by omega⟩] at hs
  refine nodup_sub (pw_nodup (rise_lt hd.1)) fun y hy => (hs.2.2 y).2 (.need ?_)
  rw [show ((ds.length : Int)).toNat = ds.length by omega, gt_app_last]
  exact hy
theorem fit_ok {ds : List Nd} (h : DefOk ds) (h8 : ds.length ≤ 8) : Fit ds := by
  refine ⟨by omega, fun d hd => ?_⟩
  obtain ⟨i, hi, rfl⟩ := List.mem_iff_getElem.1 hd
  have hk := (h i hi).1
  rw [gt_eq hi] at hk
  have := rise_len hk (by omega)
  omega
/-- 0 .. n - 1. -/
def rngL (n : Nat) : List Int := (List.range n).map fun k : Nat => (k : Int)
theorem rng_len {n : Nat} : (rngL n).length = n := by simp [rngL]
theorem rng_at {n i : Nat} (h : i < n) : gt (rngL n) i = i := by
  rw [gt_eq (by rw [rng_len]; exact h)]; simp [rngL]
theorem rng_get {n i : Nat} (h : i < n) : (rngL n)[i]? = some (i : Int) := by rw [getElem?_some_of (by rw [rng_len]; exact h), rng_at h]
theorem rng_mem {n : Nat} {x : Int} : x ∈ rngL n ↔ 0 ≤ x ∧ x < n := by
  simp only [rngL, List.mem_map, List.mem_range]
  constructor
  · rintro ⟨k, hk, rfl⟩; omega
  · rintro ⟨h1, h2⟩; exact ⟨x.toNat, by omega, by omega⟩
theorem rng_pw (n : Nat) : (rngL n).Pairwise (· < ·) := by
  rw [rngL, List.pairwise_map]
  exact List.pairwise_lt_range.imp fun h => by omega
/-- Lists that rise and have the same members. -/
theorem pw_ext : ∀ {l m : List Int}, l.Pairwise (· < ·) → m.Pairwise (· < ·) → (∀ x, x ∈ l ↔ x ∈ m) → l = m
  | [], [], _, _, _ => rfl
  | [], y :: m, _, _, h => absurd ((h y).2 (by simp)) (by simp)
  | x :: l, [], _, _, h => absurd ((h x).1 (by simp)) (by simp)
  | x :: l, y :: m, hl, hm, h => by
    have h1 := List.pairwise_cons.1 hl
    have h2 := List.pairwise_cons.1 hm
    have hxy : x = y := by
      rcases List.mem_cons.1 ((h x).1 (by simp)) with e | e
      · exact e
      · rcases List.mem_cons.1 ((h y).2 (by simp)) with e' | e'
        · exact e'.symm
        · have := h2.1 x e; have := h1.1 y e'; omega
    subst hxy
    rw [pw_ext h1.2 h2.2 fun z => ?_]
    constructor
    · intro hz
      rcases List.mem_cons.1 ((h z).1 (by simp [hz])) with e | e
      · have := h1.1 z hz; omega
      · exact e
    · intro hz
      rcases List.mem_cons.1 ((h z).2 (by simp [hz])) with e | e
      · have := h2.1 z hz; omega
      · exact e
/-- What Ahead tells, as one list. -/
noncomputable def aheadF (ds : List Nd) (node : Int) : List Int :=
  if checkL ds = 0 ∧ 0 ≤ node ∧ node < ds.length then (rngL ds.length).filter fun x => @decide (Rch ds node x) (Classical.propDecidable _) else []
theorem aheadF_ok (ds : List Nd) (node : Int) : AheadP ds node (aheadF ds node) := by
  unfold AheadP aheadF
  by_cases h : checkL ds = 0 ∧ 0 ≤ node ∧ node < ds.length
  · rw [if_pos h, if_pos h]
    refine ⟨(rng_pw _).filter _, fun x hx => rng_mem.1 (List.mem_filter.1 hx).1, fun x => ?_⟩
    rw [List.mem_filter, @decide_eq_true_eq _ (Classical.propDecidable _)]
    exact ⟨fun h => h.2, fun hx => ⟨rng_mem.2 (hx.in' h.1 h.2), hx⟩⟩
  · rw [if_neg h, if_neg h]
theorem ahead_uniq {ds : List Nd} {node : Int} {s t : List Int} (hs : AheadP ds node s) (ht : AheadP ds node t) : s = t := by
  unfold AheadP at hs ht
  by_cases h : checkL ds = 0 ∧ 0 ≤ node ∧ node < ds.length
  · rw [if_pos h] at hs ht
    exact pw_ext hs.1 ht.1 fun x => (hs.2.2 x).trans (ht.2.2 x).symm
  · rw [if_neg h] at hs ht
    rw [hs, ht]
theorem c_dag_AheadF (ds : List Nd) (node : Int) (hf : Fit ds) : Con Try.prog 13 [.f (fG ds), D.int node] [] fun r H' => r = .f (fI (aheadF ds node)) ∧ H' = [] :=
  (c_dag_Ahead ds node hf).mono fun r H' ⟨⟨s, h1, h2⟩, h3⟩ => ⟨by rw [h1, ahead_uniq h2 (aheadF_ok ds node)], h3⟩
theorem c_ord7 {ds : List Nd} (h : DefOk ds) (h1 : 1 ≤ ds.length) (h8 : ds.length ≤ 8) : Con Try.prog 11 [.f (fG ds)] [] fun r H' => r = .tp [.f (fI (rngL ds.length)), D.bool true] ∧ H' = [] :=
  (c_dag_Order ds (fit_ok h h8)).mono fun r H' k => by
    rw [if_pos (check_ok h h1 h8), order_ok h, decide_eq_true (check_ok h h1 h8)] at k
    exact k
theorem c_chk7 {ds : List Nd} (h : DefOk ds) (h1 : 1 ≤ ds.length) (h8 : ds.length ≤ 8) : Con Try.prog 9 [.f (fG ds)] [] fun r H' => r = D.int 0 ∧ H' = [] :=
  (c_dag_Check ds (fit_ok h h8)).mono fun r H' k => by
    rw [check_ok h h1 h8] at k
    exact k
end Go.Proofs.Ytjbkckhpoicaeaa.Mir

/- Functions of the program, told without it. -/
namespace Go.Proofs.Ytjbkckhpoicaeaa.Mir
open Go Go.RowKit

/-- cutover.cutoverref11.Order -/
def s_ref_Order : SCode :=
  (.seq (.ops [.a 2 (.mv (.c (.f (.v (.slice none 0 0))))),
 .a 3 (.mv (.c (.f (.v (.bool false)))))])
  (.seq (.seq (.ops ([.a 4 (.mv (.t 0)),
 .a 5 (.call (.c (.fn 36 [])) [(.t 4)])] ++
 ([.a 6 (.bin .neq (.t 5) (.c (.f (.v (.int .i64 0)))))])))
   (.cond (.t 6)
    (.seq (.ops [.a 2 (.mv (.c (.f (.v (.slice none 0 0))))),
 .a 3 (.mv (.c (.f (.v (.bool false)))))])
    .ret)
    .skip))
  (.seq (.ops ([.a 7 (.mv (.t 0)),
 .a 8 (.call (.c (.fn 60 [])) [(.t 7)])] ++
 ([.a 2 (.mv (.t 8)),
 .a 3 (.mv (.c (.f (.v (.bool true)))))])))
  .ret)))
theorem fn_ref_Order : Fn Try.prog 35 9 [.t 2, .t 3] s_ref_Order := ⟨_, _, Try.func35, rfl, rfl, by kernel_rfl, by kernel_rfl⟩

/-- cutover.cutoverref11.Check -/
def s_ref_Check : SCode :=
  (.seq (.ops [.a 2 (.mv (.c (.f (.v (.int .i64 0)))))])
  (.seq (.seq (.ops ([.a 6 (.mv (.t 0)),
 .a 7 (.slen (.t 6)),
 .a 8 (.bin .lss (.t 7) (.c (.f (.v (.int .i64 1)))))] ++
 ([.a 9 (.mv (.t 8)),
 .g (some 10) (.mv (.t 0)) 9 false] ++
 ([.g (some 11) (.slen (.t 10)) 9 false,
 .g (some 12) (.bin .gtr (.t 11) (.c (.f (.v (.int .i64 8))))) 9 false] ++
 ([.a 13 (.pick (.t 9) (.c (.f (.v (.bool true)))) (.t 12))])))))
   (.cond (.t 13)
    (.seq (.ops [.a 2 (.mv (.c (.f (.v (.int .i64 1)))))])
    .ret)
    .skip))
  (.seq (.seq (.ops [.a 3 (.mv (.c (.f (.v (.int .i64 0)))))])
   (.block 0 (.loop
     (.seq (.seq (.ops [.a 14 (.mv (.t 3)),
 .a 15 (.mv (.t 0)),
 .a 16 (.slen (.t 15)),
 .a 17 (.bin .lss (.t 14) (.t 16))])
      (.cond (.t 17)
       .skip
       (.exit 0)))
     (.seq (.block 1 (.seq (.ops [.a 20 (.mv (.t 0)),
 .a 21 (.mv (.t 3)),
 .a 22 (.idx 3 (.t 20) (.t 21)),
 .a 23 (.loadA 3 (.t 22)),
 .a 4 (.alloc 30 [(.f (.v (.slice none 0 0))), (.f (.v (.int .i64 0))), (.f (.v (.int .i64 0)))]),
 .n (.store 3 (.t 4) (.t 23))])
       (.seq (.seq (.ops ([.a 24 (.off 1 (.t 4)),
 .a 25 (.load1 (.t 24)),
 .a 26 (.bin .lss (.t 25) (.c (.f (.v (.int .i64 1)))))] ++
 ([.a 27 (.mv (.t 26)),
 .g (some 28) (.off 1 (.t 4)) 27 false] ++
 ([.g (some 29) (.load1 (.t 28)) 27 false,
 .g (some 30) (.bin .gtr (.t 29) (.c (.f (.v (.int .i64 5))))) 27 false] ++
 ([.a 31 (.pick (.t 27) (.c (.f (.v (.bool true)))) (.t 30)),
 .a 32 (.mv (.t 31)),
 .g (some 33) (.off 2 (.t 4)) 32 false] ++
 ([.g (some 34) (.load1 (.t 33)) 32 false,
 .g (some 35) (.bin .lss (.t 34) (.c (.f (.v (.int .i64 1))))) 32 false] ++
 ([.a 36 (.pick (.t 32) (.c (.f (.v (.bool true)))) (.t 35)),
 .a 37 (.mv (.t 36)),
 .g (some 38) (.off 2 (.t 4)) 37 false] ++
 ([.g (some 39) (.load1 (.t 38)) 37 false,
 .g (some 40) (.bin .gtr (.t 39) (.c (.f (.v (.int .i64 1048576))))) 37 false] ++
 ([.a 41 (.pick (.t 37) (.c (.f (.v (.bool true)))) (.t 40))])))))))))
        (.cond (.t 41)
         (.seq (.ops [.a 2 (.mv (.c (.f (.v (.int .i64 1)))))])
         .ret)
         .skip))
       (.seq (.ops [.a 5 (.mv (.c (.f (.v (.int .i64 0)))))])
       (.block 2 (.loop
         (.seq (.seq (.ops [.a 42 (.mv (.t 5)),
 .a 43 (.off 0 (.t 4)),
 .a 44 (.load1 (.t 43)),
 .a 45 (.slen (.t 44)),
 .a 46 (.bin .lss (.t 42) (.t 45))])
          (.cond (.t 46)
           .skip
           (.exit 2)))
         (.seq (.block 3 (.seq (.drw [.a 49 (.off 0 (.t 4)),
              .a 50 (.load1 (.t 49)),
              .a 51 (.mv (.t 5)),
              .a 52 (.idx 1 (.t 50) (.t 51)),
              .a 53 (.load1 (.t 52)),
              .a 54 (.bin .lss (.t 53) (.c (.f (.v (.int .i64 0))))),
              .a 55 (.mv (.t 54)),
              .g (some 56) (.off 0 (.t 4)) 55 false,
              .g (some 57) (.load1 (.t 56)) 55 false,
              .g (some 58) (.mv (.t 5)) 55 false,
              .g (some 59) (.idx 1 (.t 57) (.t 58)) 55 false,
              .g (some 60) (.load1 (.t 59)) 55 false,
              .g (some 61) (.mv (.t 0)) 55 false,
              .g (some 62) (.slen (.t 61)) 55 false,
              .g (some 63) (.bin .geq (.t 60) (.t 62)) 55 false,
              .a 64 (.pick (.t 55) (.c (.f (.v (.bool true)))) (.t 63)),
              .a 65 (.mv (.t 64)),
              .g (some 66) (.mv (.t 5)) 65 false,
              .g (some 67) (.bin .gtr (.t 66) (.c (.f (.v (.int .i64 0))))) 65 false,
              .g (some 68) (.mv (.t 67)) 65 false,
              .g (some 69) (.off 0 (.t 4)) 68 true,
              .g (some 70) (.load1 (.t 69)) 68 true,
              .g (some 71) (.mv (.t 5)) 68 true,
              .g (some 72) (.idx 1 (.t 70) (.t 71)) 68 true,
              .g (some 73) (.load1 (.t 72)) 68 true,
              .g (some 74) (.off 0 (.t 4)) 68 true,
              .g (some 75) (.load1 (.t 74)) 68 true,
              .g (some 76) (.mv (.t 5)) 68 true,
              .g (some 77) (.bin .sub (.t 76) (.c (.f (.v (.int .i64 1))))) 68 true,
              .g (some 78) (.idx 1 (.t 75) (.t 77)) 68 true,
              .g (some 79) (.load1 (.t 78)) 68 true,
              .g (some 80) (.bin .leq (.t 73) (.t 79)) 68 true,
              .g (some 81) (.pick (.t 68) (.t 80) (.c (.f (.v (.bool false))))) 65 false,
              .a 82 (.pick (.t 65) (.c (.f (.v (.bool true)))) (.t 81))] [0, 1, 0, 7, 15, 31, 63, 127, 255, 127, 1023, 2047, 127, 4223, 16383, 32767, 65535, 131071, 262143, 524287, 1048575, 2097151, 1048575, 8388607, 16777215, 1048575, 34603007, 1048575, 135266303, 504365055, 1041235967, 2147483647, 4294967295, 8589934591])
           (.cond (.t 82)
            (.seq (.ops [.a 2 (.mv (.c (.f (.v (.int .i64 1)))))])
            .ret)
            .skip)))
         (.ops [.a 47 (.mv (.t 5)),
 .a 48 (.bin .add (.t 47) (.c (.f (.v (.int .i64 1))))),
 .a 5 (.mv (.t 48))])))))))))
     (.ops [.a 18 (.mv (.t 3)),
 .a 19 (.bin .add (.t 18) (.c (.f (.v (.int .i64 1))))),
 .a 3 (.mv (.t 19))]))))))
  (.seq (.seq (.ops ([.a 83 (.mv (.t 0)),
 .a 84 (.call (.c (.fn 60 [])) [(.t 83)])] ++
 ([.a 85 (.slen (.t 84)),
 .a 86 (.mv (.t 0)),
 .a 87 (.slen (.t 86)),
 .a 88 (.bin .lss (.t 85) (.t 87))])))
   (.cond (.t 88)
    (.seq (.ops [.a 2 (.mv (.c (.f (.v (.int .i64 9)))))])
    .ret)
    .skip))
  (.seq (.ops [.a 2 (.mv (.c (.f (.v (.int .i64 0)))))])
  .ret)))))
theorem fn_ref_Check : Fn Try.prog 36 89 [.t 2] s_ref_Check := ⟨_, _, Try.func36, rfl, rfl, by kernel_rfl, by kernel_rfl⟩

/-- cutover.cutoverref11.Depth -/
def s_ref_Depth : SCode :=
  (.seq (.ops [.a 2 (.mv (.c (.f (.v (.int .i64 0)))))])
  (.seq (.ops ([.a 11 (.mv (.t 0)),
 .a 12 (.call (.c (.fn 35 [])) [(.t 11)])] ++
 ([.a 10 (.mv (.t 12)),
 .a 13 (.ext 0 (.t 10)),
 .a 14 (.ext 1 (.t 10)),
 .a 3 (.mv (.t 13)),
 .a 4 (.mv (.t 14))])))
  (.seq (.seq (.ops [.a 15 (.mv (.t 4)),
 .a 16 (.unot (.t 15))])
   (.cond (.t 16)
    (.seq (.ops [.a 2 (.mv (.c (.f (.v (.int .i64 0)))))])
    .ret)
    .skip))
  (.seq (.ops [.a 17 (.mv (.t 0)),
 .a 18 (.slen (.t 17)),
 .a 19 (.mkslice 3 1 8 [(.v (.int .i64 0))] (.t 18) (.t 18)),
 .a 5 (.mv (.t 19))])
  (.seq (.ops [.a 6 (.mv (.c (.f (.v (.int .i64 0)))))])
  (.seq (.seq (.ops [.a 7 (.mv (.c (.f (.v (.int .i64 0)))))])
   (.block 0 (.loop
     (.seq (.seq (.ops [.a 20 (.mv (.t 7)),
 .a 21 (.mv (.t 3)),
 .a 22 (.slen (.t 21)),
 .a 23 (.bin .lss (.t 20) (.t 22))])
      (.cond (.t 23)
       .skip
       (.exit 0)))
     (.seq (.block 1 (.seq (.ops [.a 8 (.mv (.c (.f (.v (.int .i64 0)))))])
       (.seq (.seq (.ops [.a 9 (.mv (.c (.f (.v (.int .i64 0)))))])
        (.block 2 (.loop
          (.seq (.seq (.ops [.a 26 (.mv (.t 9)),
 .a 27 (.mv (.t 0)),
 .a 28 (.mv (.t 3)),
 .a 29 (.mv (.t 7)),
 .a 30 (.idx 1 (.t 28) (.t 29)),
 .a 31 (.load1 (.t 30)),
 .a 32 (.idx 3 (.t 27) (.t 31)),
 .a 33 (.off 0 (.t 32)),
 .a 34 (.load1 (.t 33)),
 .a 35 (.slen (.t 34)),
 .a 36 (.bin .lss (.t 26) (.t 35))])
           (.cond (.t 36)
            .skip
            (.exit 2)))
          (.seq (.block 3 (.ops [.a 39 (.mv (.t 8)),
 .a 40 (.mv (.t 5)),
 .a 41 (.mv (.t 0)),
 .a 42 (.mv (.t 3)),
 .a 43 (.mv (.t 7)),
 .a 44 (.idx 1 (.t 42) (.t 43)),
 .a 45 (.load1 (.t 44)),
 .a 46 (.idx 3 (.t 41) (.t 45)),
 .a 47 (.off 0 (.t 46)),
 .a 48 (.load1 (.t 47)),
 .a 49 (.mv (.t 9)),
 .a 50 (.idx 1 (.t 48) (.t 49)),
 .a 51 (.load1 (.t 50)),
 .a 52 (.idx 1 (.t 40) (.t 51)),
 .a 53 (.load1 (.t 52)),
 .a 54 (.mm true (.t 39) (.t 53)),
 .a 8 (.mv (.t 54))]))
          (.ops [.a 37 (.mv (.t 9)),
 .a 38 (.bin .add (.t 37) (.c (.f (.v (.int .i64 1))))),
 .a 9 (.mv (.t 38))]))))))
       (.seq (.ops [.a 55 (.mv (.t 5)),
 .a 56 (.mv (.t 3)),
 .a 57 (.mv (.t 7)),
 .a 58 (.idx 1 (.t 56) (.t 57)),
 .a 59 (.load1 (.t 58)),
 .a 60 (.mv (.t 8)),
 .a 61 (.bin .add (.t 60) (.c (.f (.v (.int .i64 1))))),
 .a 62 (.idx 1 (.t 55) (.t 59)),
 .n (.store 1 (.t 62) (.t 61))])
       (.ops [.a 63 (.mv (.t 6)),
 .a 64 (.mv (.t 8)),
 .a 65 (.bin .add (.t 64) (.c (.f (.v (.int .i64 1))))),
 .a 66 (.mm true (.t 63) (.t 65)),
 .a 6 (.mv (.t 66))])))))
     (.ops [.a 24 (.mv (.t 7)),
 .a 25 (.bin .add (.t 24) (.c (.f (.v (.int .i64 1))))),
 .a 7 (.mv (.t 25))]))))))
  (.seq (.ops [.a 67 (.mv (.t 6)),
 .a 2 (.mv (.t 67))])
  .ret)))))))
theorem fn_ref_Depth : Fn Try.prog 38 68 [.t 2] s_ref_Depth := ⟨_, _, Try.func38, rfl, rfl, by kernel_rfl, by kernel_rfl⟩

/-- cutover.cutoverref11.Ahead -/
def s_ref_Ahead : SCode :=
  (.seq (.ops [.a 4 (.mv (.c (.f (.v (.slice none 0 0)))))])
  (.seq (.seq (.ops ([.a 10 (.mv (.t 0)),
 .a 11 (.call (.c (.fn 36 [])) [(.t 10)])] ++
 ([.a 12 (.bin .neq (.t 11) (.c (.f (.v (.int .i64 0)))))] ++
 ([.a 13 (.mv (.t 12)),
 .g (some 14) (.mv (.t 1)) 13 false] ++
 ([.g (some 15) (.bin .lss (.t 14) (.c (.f (.v (.int .i64 0))))) 13 false] ++
 ([.a 16 (.pick (.t 13) (.c (.f (.v (.bool true)))) (.t 15)),
 .a 17 (.mv (.t 16)),
 .g (some 18) (.mv (.t 1)) 17 false] ++
 ([.g (some 19) (.mv (.t 0)) 17 false,
 .g (some 20) (.slen (.t 19)) 17 false,
 .g (some 21) (.bin .geq (.t 18) (.t 20)) 17 false] ++
 ([.a 22 (.pick (.t 17) (.c (.f (.v (.bool true)))) (.t 21))]))))))))
   (.cond (.t 22)
    (.seq (.ops [.a 4 (.mv (.c (.f (.v (.slice none 0 0)))))])
    .ret)
    .skip))
  (.seq (.ops [.a 23 (.mv (.t 0)),
 .a 24 (.slen (.t 23)),
 .a 25 (.mkslice 4 1 1 [(.v (.bool false))] (.t 24) (.t 24)),
 .a 5 (.mv (.t 25))])
  (.seq (.ops ([.a 26 (.bsl 3 1 0 [] []),
 .a 27 (.mv (.t 0)),
 .a 28 (.mv (.t 1)),
 .a 29 (.idx 3 (.t 27) (.t 28)),
 .a 30 (.off 0 (.t 29)),
 .a 31 (.load1 (.t 30)),
 .a 32 (.app 3 1 8 (.t 26) (.t 31))] ++
 ([.a 6 (.mv (.t 32))])))
  (.seq (.block 0 (.loop
     (.seq (.seq (.ops [.a 33 (.mv (.t 6)),
 .a 34 (.slen (.t 33)),
 .a 35 (.bin .gtr (.t 34) (.c (.f (.v (.int .i64 0)))))])
      (.cond (.t 35)
       .skip
       (.exit 0)))
     (.block 1 (.seq (.ops [.a 36 (.mv (.t 6)),
 .a 37 (.idx 1 (.t 36) (.c (.f (.v (.int .i64 0))))),
 .a 38 (.load1 (.t 37)),
 .a 7 (.mv (.t 38))])
      (.seq (.ops [.a 39 (.mv (.t 6)),
 .a 40 (.sub 1 3 (.t 39) (some (.c (.f (.v (.int .i64 1))))) none none),
 .a 6 (.mv (.t 40))])
      (.seq (.ops [.a 41 (.mv (.t 5)),
 .a 42 (.mv (.t 7)),
 .a 43 (.idx 1 (.t 41) (.t 42)),
 .a 44 (.load1 (.t 43)),
 .a 45 (.unot (.t 44))])
      (.cond (.t 45)
       (.seq (.ops [.a 46 (.mv (.t 5)),
 .a 47 (.mv (.t 7)),
 .a 48 (.idx 1 (.t 46) (.t 47)),
 .n (.store 1 (.t 48) (.c (.f (.v (.bool true)))))])
       (.drw [.a 49 (.bsl 3 1 0 [] []),
         .a 50 (.mv (.t 6)),
         .a 51 (.app 3 1 8 (.t 49) (.t 50)),
         .a 52 (.mv (.t 0)),
         .a 53 (.mv (.t 7)),
         .a 54 (.idx 3 (.t 52) (.t 53)),
         .a 55 (.off 0 (.t 54)),
         .a 56 (.load1 (.t 55)),
         .a 57 (.app 3 1 8 (.t 51) (.t 56)),
         .a 6 (.mv (.t 57))] [0, 0, 3, 0, 0, 24, 56, 120, 255, 511]))
       .skip))))))))
  (.seq (.ops [.a 8 (.mv (.c (.f (.v (.slice none 0 0)))))])
  (.seq (.seq (.ops [.a 9 (.mv (.c (.f (.v (.int .i64 0)))))])
   (.block 2 (.loop
     (.seq (.seq (.ops [.a 58 (.mv (.t 9)),
 .a 59 (.mv (.t 5)),
 .a 60 (.slen (.t 59)),
 .a 61 (.bin .lss (.t 58) (.t 60))])
      (.cond (.t 61)
       .skip
       (.exit 2)))
     (.seq (.block 3 (.seq (.ops [.a 64 (.mv (.t 5)),
 .a 65 (.mv (.t 9)),
 .a 66 (.idx 1 (.t 64) (.t 65)),
 .a 67 (.load1 (.t 66))])
       (.cond (.t 67)
        (.ops ([.a 68 (.mv (.t 8)),
 .a 69 (.mv (.t 9)),
 .a 70 (.bsl 3 1 1 [(.f (.v (.int .i64 0)))] [(0, (.t 69))]),
 .a 71 (.app 3 1 8 (.t 68) (.t 70))] ++
 ([.a 8 (.mv (.t 71))])))
        .skip)))
     (.ops [.a 62 (.mv (.t 9)),
 .a 63 (.bin .add (.t 62) (.c (.f (.v (.int .i64 1))))),
 .a 9 (.mv (.t 63))]))))))
  (.seq (.ops [.a 72 (.mv (.t 8)),
 .a 4 (.mv (.t 72))])
  .ret))))))))
theorem fn_ref_Ahead : Fn Try.prog 39 73 [.t 4] s_ref_Ahead := ⟨_, _, Try.func39, rfl, rfl, by kernel_rfl, by kernel_rfl⟩

/-- cutover.cutoverref11.Ready -/
def s_ref_Ready : SCode :=
  (.seq (.ops [.a 4 (.mv (.c (.f (.v (.slice none 0 0)))))])
  (.seq (.ops [.a 5 (.mv (.c (.f (.v (.slice none 0 0)))))])
  (.seq (.seq (.ops [.a 6 (.mv (.c (.f (.v (.int .i64 0)))))])
   (.block 0 (.loop
     (.seq (.seq (.ops [.a 7 (.mv (.t 6)),
 .a 8 (.mv (.t 0)),
 .a 9 (.slen (.t 8)),
 .a 10 (.bin .lss (.t 7) (.t 9))])
      (.cond (.t 10)
       .skip
       (.exit 0)))
     (.seq (.block 1 (.seq (.ops ([.a 13 (.mv (.t 6)),
 .a 14 (.mv (.t 1)),
 .a 15 (.slen (.t 14)),
 .a 16 (.bin .geq (.t 13) (.t 15))] ++
 ([.a 17 (.mv (.t 16)),
 .g (some 18) (.mv (.t 1)) 17 false] ++
 ([.g (some 19) (.mv (.t 6)) 17 false,
 .g (some 20) (.idx 1 (.t 18) (.t 19)) 17 false,
 .g (some 21) (.load1 (.t 20)) 17 false,
 .g (some 22) (.unot (.t 21)) 17 false,
 .a 23 (.pick (.t 17) (.c (.f (.v (.bool true)))) (.t 22)),
 .a 24 (.mv (.t 23)),
 .g (some 25) (.mv (.t 0)) 24 true] ++
 ([.g (some 26) (.mv (.t 6)) 24 true,
 .g (some 27) (.idx 3 (.t 25) (.t 26)) 24 true,
 .g (some 28) (.loadA 3 (.t 27)) 24 true,
 .g (some 29) (.mv (.t 1)) 24 true,
 .g (some 30) (.call (.c (.fn 62 [])) [(.t 28), (.t 29)]) 24 true] ++
 ([.a 31 (.pick (.t 24) (.t 30) (.c (.f (.v (.bool false)))))]))))))
       (.cond (.t 31)
        (.ops ([.a 32 (.mv (.t 5)),
 .a 33 (.mv (.t 6)),
 .a 34 (.bsl 3 1 1 [(.f (.v (.int .i64 0)))] [(0, (.t 33))]),
 .a 35 (.app 3 1 8 (.t 32) (.t 34))] ++
 ([.a 5 (.mv (.t 35))])))
        .skip)))
     (.ops [.a 11 (.mv (.t 6)),
 .a 12 (.bin .add (.t 11) (.c (.f (.v (.int .i64 1))))),
 .a 6 (.mv (.t 12))]))))))
  (.seq (.ops [.a 36 (.mv (.t 5)),
 .a 4 (.mv (.t 36))])
  .ret))))
theorem fn_ref_Ready : Fn Try.prog 41 37 [.t 4] s_ref_Ready := ⟨_, _, Try.func41, rfl, rfl, by kernel_rfl, by kernel_rfl⟩

/-- cutover.cutoverref11.order -/
def s_ref_order : SCode :=
  (.seq (.ops [.a 2 (.mv (.c (.f (.v (.slice none 0 0)))))])
  (.seq (.ops [.a 7 (.mv (.t 0)),
 .a 8 (.slen (.t 7)),
 .a 9 (.mkslice 4 1 1 [(.v (.bool false))] (.t 8) (.t 8)),
 .a 3 (.mv (.t 9))])
  (.seq (.ops [.a 4 (.mv (.c (.f (.v (.slice none 0 0)))))])
  (.seq (.seq (.ops [.a 5 (.mv (.c (.f (.v (.bool true)))))])
   (.block 0 (.loop
     (.seq (.seq (.ops [.a 10 (.mv (.t 5))])
      (.cond (.t 10)
       .skip
       (.exit 0)))
     (.block 1 (.seq (.ops [.a 5 (.mv (.c (.f (.v (.bool false)))))])
      (.seq (.ops [.a 6 (.mv (.c (.f (.v (.int .i64 0)))))])
      (.block 2 (.loop
        (.seq (.seq (.ops ([.a 11 (.mv (.t 6)),
 .a 12 (.mv (.t 0)),
 .a 13 (.slen (.t 12)),
 .a 14 (.bin .lss (.t 11) (.t 13))] ++
 ([.a 15 (.mv (.t 14)),
 .g (some 16) (.mv (.t 5)) 15 true] ++
 ([.g (some 17) (.unot (.t 16)) 15 true,
 .a 18 (.pick (.t 15) (.t 17) (.c (.f (.v (.bool false)))))]))))
         (.cond (.t 18)
          .skip
          (.exit 2)))
        (.seq (.block 3 (.seq (.ops ([.a 21 (.mv (.t 3)),
 .a 22 (.mv (.t 6)),
 .a 23 (.idx 1 (.t 21) (.t 22)),
 .a 24 (.load1 (.t 23)),
 .a 25 (.unot (.t 24)),
 .a 26 (.mv (.t 25)),
 .g (some 27) (.mv (.t 0)) 26 true] ++
 ([.g (some 28) (.mv (.t 6)) 26 true,
 .g (some 29) (.idx 3 (.t 27) (.t 28)) 26 true,
 .g (some 30) (.loadA 3 (.t 29)) 26 true,
 .g (some 31) (.mv (.t 3)) 26 true,
 .g (some 32) (.call (.c (.fn 62 [])) [(.t 30), (.t 31)]) 26 true] ++
 ([.a 33 (.pick (.t 26) (.t 32) (.c (.f (.v (.bool false)))))]))))
          (.cond (.t 33)
           (.seq (.ops [.a 34 (.mv (.t 3)),
 .a 35 (.mv (.t 6)),
 .a 36 (.idx 1 (.t 34) (.t 35)),
 .n (.store 1 (.t 36) (.c (.f (.v (.bool true)))))])
           (.seq (.ops ([.a 37 (.mv (.t 4)),
 .a 38 (.mv (.t 6)),
 .a 39 (.bsl 3 1 1 [(.f (.v (.int .i64 0)))] [(0, (.t 38))]),
 .a 40 (.app 3 1 8 (.t 37) (.t 39))] ++
 ([.a 4 (.mv (.t 40))])))
           (.ops [.a 5 (.mv (.c (.f (.v (.bool true)))))])))
           .skip)))
        (.ops [.a 19 (.mv (.t 6)),
 .a 20 (.bin .add (.t 19) (.c (.f (.v (.int .i64 1))))),
 .a 6 (.mv (.t 20))]))))))))))))
  (.seq (.ops [.a 41 (.mv (.t 4)),
 .a 2 (.mv (.t 41))])
  .ret)))))
theorem fn_ref_order : Fn Try.prog 60 42 [.t 2] s_ref_order := ⟨_, _, Try.func60, rfl, rfl, by kernel_rfl, by kernel_rfl⟩

/-- cutover.cutoverref11.met -/
def s_ref_met : SCode :=
  (.seq (.ops [.a 2 (.box 30 (.t 0)),
 .a 4 (.mv (.c (.f (.v (.bool false)))))])
  (.seq (.seq (.ops [.a 5 (.mv (.c (.f (.v (.int .i64 0)))))])
   (.block 0 (.loop
     (.seq (.seq (.ops [.a 6 (.mv (.t 5)),
 .a 7 (.off 0 (.t 2)),
 .a 8 (.load1 (.t 7)),
 .a 9 (.slen (.t 8)),
 .a 10 (.bin .lss (.t 6) (.t 9))])
      (.cond (.t 10)
       .skip
       (.exit 0)))
     (.seq (.block 1 (.seq (.ops ([.a 13 (.off 0 (.t 2)),
 .a 14 (.load1 (.t 13)),
 .a 15 (.mv (.t 5)),
 .a 16 (.idx 1 (.t 14) (.t 15)),
 .a 17 (.load1 (.t 16)),
 .a 18 (.mv (.t 1)),
 .a 19 (.slen (.t 18)),
 .a 20 (.bin .geq (.t 17) (.t 19))] ++
 ([.a 21 (.mv (.t 20)),
 .g (some 22) (.mv (.t 1)) 21 false] ++
 ([.g (some 23) (.off 0 (.t 2)) 21 false,
 .g (some 24) (.load1 (.t 23)) 21 false,
 .g (some 25) (.mv (.t 5)) 21 false,
 .g (some 26) (.idx 1 (.t 24) (.t 25)) 21 false,
 .g (some 27) (.load1 (.t 26)) 21 false,
 .g (some 28) (.idx 1 (.t 22) (.t 27)) 21 false,
 .g (some 29) (.load1 (.t 28)) 21 false,
 .g (some 30) (.unot (.t 29)) 21 false,
 .a 31 (.pick (.t 21) (.c (.f (.v (.bool true)))) (.t 30))]))))
       (.cond (.t 31)
        (.seq (.ops [.a 4 (.mv (.c (.f (.v (.bool false)))))])
        .ret)
        .skip)))
     (.ops [.a 11 (.mv (.t 5)),
 .a 12 (.bin .add (.t 11) (.c (.f (.v (.int .i64 1))))),
 .a 5 (.mv (.t 12))]))))))
  (.seq (.ops [.a 4 (.mv (.c (.f (.v (.bool true)))))])
  .ret)))
theorem fn_ref_met : Fn Try.prog 62 32 [.t 4] s_ref_met := ⟨_, _, Try.func62, rfl, rfl, by kernel_rfl, by kernel_rfl⟩

end Go.Proofs.Ytjbkckhpoicaeaa.Mir
