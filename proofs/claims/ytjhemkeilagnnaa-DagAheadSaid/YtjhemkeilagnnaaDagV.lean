/- Orders and depths, in plain lists: each node behind what it needs. -/
import Derived.Test.YtjhemkeilagnnaaDagT
namespace Go.Proofs.Ytjhemkeilagnnaa.Mir
open Go Go.RowKit
set_option linter.unusedVariables false
set_option linter.unusedSimpArgs false

theorem gt_set {α : Type} [Inhabited α] {l : List α} {i j : Nat} {x : α} (hi : i < l.length) : gt (l.set i x) j = if i = j then x else gt l j := by
  unfold gt
  by_cases h : i = j
  · subst h
    rw [if_pos rfl, getElem!_pos _ i (by rw [List.length_set]; exact hi), List.getElem_set_self]
  · rw [if_neg h]
    by_cases hj : j < l.length
    · rw [getElem!_pos _ j (by rw [List.length_set]; exact hj), getElem!_pos _ j hj, List.getElem_set_ne h]
    · rw [getElem!_neg _ j (by rw [List.length_set]; exact hj), getElem!_neg _ j hj]
theorem nxt_met (done : List Bool) : ∀ (k : Nat) (ds : List Nd), 0 ≤ nxt done k ds → metB done (gt ds (nxt done k ds - k).toNat).ns = true
  | k, [], h => by simp [nxt] at h
  | k, d :: ds, h => by
    unfold nxt at h ⊢
    split
    · rename_i hc
      simp only [Bool.and_eq_true] at hc
      rw [show ((k : Int) - k).toNat = 0 by omega]
      exact hc.2
    · rename_i hc
      rw [if_neg hc] at h
      have h1 := nxt_met done (k + 1) ds h
      have h2 := nxt_in done (k + 1) ds h
      obtain ⟨m, hm⟩ : ∃ m : Nat, (nxt done (k + 1) ds - (k : Nat)).toNat = m + 1 := ⟨(nxt done (k + 1) ds - ((k + 1 : Nat) : Int)).toNat, by omega⟩
      rw [show (nxt done (k + 1) ds - ((k + 1 : Nat) : Int)).toNat = m by omega] at h1
      rw [hm]
      exact h1
theorem idx_ne {z x : Int} {l : List Int} (h : z ≠ x) : (z :: l).idxOf x = l.idxOf x + 1 := by
  rw [List.idxOf_cons, show (z == x) = false from by simpa using h]
  rfl
/-- A list in which each node stands behind what it needs. -/
def Topo (ds : List Nd) : List Bool → List Int → Prop
  | _, [] => True
  | done, x :: l => 0 ≤ x ∧ x.toNat < done.length ∧ gt done x.toNat = false ∧ metB done (gt ds x.toNat).ns = true ∧ Topo ds (done.set x.toNat true) l
theorem sq_topo (ds : List Nd) : ∀ (n : Nat) (done : List Bool), done.length = ds.length → Topo ds done (sqF ds n done)
  | 0, _, _ => trivial
  | n + 1, done, hd => by
    rw [sqF]
    split
    · trivial
    · rename_i h
      have h0 : 0 ≤ nxt done 0 ds := by omega
      have h1 := nxt_in done 0 ds h0
      have h2 := nxt_met done 0 ds h0
      rw [show (nxt done 0 ds - ((0 : Nat) : Int)).toNat = (nxt done 0 ds).toNat by omega] at h2
      exact ⟨h0, by omega, h1.2.2, h2, sq_topo ds n _ (by rw [List.length_set]; exact hd)⟩
theorem topo_open {ds : List Nd} : ∀ {l : List Int} {done : List Bool}, Topo ds done l → ∀ x ∈ l, 0 ≤ x ∧ x.toNat < done.length ∧ gt done x.toNat = false
  | z :: l, done, ⟨h1, h2, h3, h4, h5⟩, x, hx => by
    rcases List.mem_cons.1 hx with rfl | hx
    · exact ⟨h1, h2, h3⟩
    · obtain ⟨k1, k2, k3⟩ := topo_open h5 x hx
      rw [List.length_set] at k2
      rw [gt_set h2] at k3
      split at k3
      · cases k3
      · exact ⟨k1, k2, k3⟩
theorem topo_ne {ds : List Nd} {l : List Int} {done : List Bool} {z : Int} (h2 : z.toNat < done.length) (h : Topo ds (done.set z.toNat true) l) : z ∉ l := fun hz => by
  have := (topo_open h z hz).2.2
  rw [gt_set h2, if_pos rfl] at this
  cases this
theorem topo_nodup {ds : List Nd} : ∀ {l : List Int} {done : List Bool}, Topo ds done l → l.Nodup
  | [], _, _ => List.nodup_nil
  | z :: l, done, ⟨h1, h2, h3, h4, h5⟩ => List.nodup_cons.2 ⟨topo_ne h2 h5, topo_nodup h5⟩
theorem topo_before {ds : List Nd} : ∀ {l : List Int} {done : List Bool}, Topo ds done l → ∀ x ∈ l, ∀ y ∈ (gt ds x.toNat).ns, 0 ≤ y → gt done y.toNat = true ∨ (y ∈ l ∧ l.idxOf y < l.idxOf x)
  | z :: l, done, ⟨h1, h2, h3, h4, h5⟩, x, hx, y, hy, hy0 => by
    have hzl := topo_ne h2 h5
    by_cases hxz : x = z
    · subst hxz
      have := List.all_eq_true.1 h4 y hy
      simp only [inB, Bool.and_eq_true] at this
      exact .inl this.2
    · have hx : x ∈ l := by
        rcases List.mem_cons.1 hx with h | h
        · exact absurd h hxz
        · exact h
      have ix : (z :: l).idxOf x = l.idxOf x + 1 := idx_ne (fun e => hxz e.symm)
      rcases topo_before h5 x hx y hy hy0 with h | ⟨h6, h7⟩
      · rw [gt_set h2] at h
        by_cases hzy : z.toNat = y.toNat
        · have : z = y := by omega
          subst this
          exact .inr ⟨by simp, by rw [ix, List.idxOf_cons_self]; omega⟩
        · rw [if_neg hzy] at h
          exact .inl h
      · refine .inr ⟨by simp [h6], ?_⟩
        have hyz : z ≠ y := fun e => hzl (e ▸ h6)
        rw [ix, idx_ne hyz]
        omega
theorem order_topo (ds : List Nd) : Topo ds (List.replicate ds.length false) (orderL ds) := by
  rw [orderL_seq]
  exact sq_topo ds _ _ List.length_replicate
theorem gt_rep {n k : Nat} : gt (List.replicate n false) k = false := by
  unfold gt
  by_cases h : k < n
  · rw [getElem!_pos _ k (by simpa using h)]; simp
  · rw [getElem!_neg _ k (by simpa using h)]; rfl
theorem order_all {ds : List Nd} (hc : checkL ds = 0) {x : Int} (hx : 0 ≤ x ∧ x < ds.length) : x ∈ orderL ds := by
  refine Classical.byContradiction fun h => ?_
  have h1 := nodup_len ds.length (x :: orderL ds) (List.nodup_cons.2 ⟨h, topo_nodup (order_topo ds)⟩) (fun y hy => by
    rcases List.mem_cons.1 hy with rfl | hy
    · exact hx
    · exact order_in y hy)
  rw [List.length_cons, order_len hc] at h1
  omega
/-- Where a node stands. -/
def rkL (ds : List Nd) (x : Int) : Nat := (orderL ds).idxOf x
theorem rk_lt {ds : List Nd} (hc : checkL ds = 0) {x y : Int} (hx : 0 ≤ x ∧ x < ds.length) (hy : y ∈ (gt ds x.toNat).ns) : rkL ds y < rkL ds x := by
  have h1 := (ns_of hc hx).1 y hy
  rcases topo_before (order_topo ds) x (order_all hc hx) y hy h1.1 with h | ⟨_, h⟩
  · rw [gt_rep] at h; cases h
  · exact h
theorem Rch.in' {ds : List Nd} (hc : checkL ds = 0) {a x : Int} (ha : 0 ≤ a ∧ a < ds.length) (h : Rch ds a x) : 0 ≤ x ∧ x < ds.length := by
  induction h with
  | need hx => exact (ns_of hc ha).1 _ hx
  | far _ hx ih => exact (ns_of hc ih).1 _ hx
theorem Rch.rk {ds : List Nd} (hc : checkL ds = 0) {a x : Int} (ha : 0 ≤ a ∧ a < ds.length) (h : Rch ds a x) : rkL ds x < rkL ds a := by
  induction h with
  | need hx => exact rk_lt hc ha hx
  | far h hx ih => exact Nat.lt_trans (rk_lt hc (h.in' hc ha) hx) ih
theorem Rch.trans {ds : List Nd} {a b x : Int} (h1 : Rch ds a b) (h2 : Rch ds b x) : Rch ds a x := by
  induction h2 with
  | need hx => exact .far h1 hx
  | far _ hx ih => exact .far ih hx
theorem nodup_sub : ∀ {l m : List Int}, l.Nodup → (∀ x ∈ l, x ∈ m) → l.length ≤ m.length
  | [], _, _, _ => Nat.zero_le _
  | x :: l, m, hn, h => by
    have h1 := List.nodup_cons.1 hn
    have h2 := nodup_sub (l := l) (m := m.erase x) h1.2 (fun y hy => by
      have hne : y ≠ x := fun e => h1.1 (e ▸ hy)
      exact (List.mem_erase_of_ne hne).2 (h y (by simp [hy])))
    rw [List.length_erase_of_mem (h x (by simp))] at h2
    have h3 : 0 < m.length := List.length_pos_of_mem (h x (by simp))
    simp only [List.length_cons]
    omega
theorem pw_nodup {l : List Int} (h : l.Pairwise (· < ·)) : l.Nodup := h.imp fun h => by omega
/-- Depths in their bounds. -/
theorem mxN_dp {n : Nat} {t : Int} (k : Nat) : ∀ (ns : List Int) (deep : List Int), Dp n t deep → k < n → (∀ x ∈ ns, 0 ≤ x ∧ x < n) → Dp n t (mxN k deep ns)
  | [], _, h, _, _ => h
  | x :: ns, deep, h, hk, hn => by
    have hx := hn x (by simp)
    have h1 := h.at hk
    have h2 := h.at (k := x.toNat) (by omega)
    exact mxN_dp k ns _ (h.set (by omega)) hk fun y hy => hn y (by simp [hy])
theorem deepS_dp {ds : List Nd} (hc : checkL ds = 0) {t : Int} {deep : List Int} (h : Dp ds.length t deep) {k : Int} (hk : 0 ≤ k ∧ k < ds.length) : Dp ds.length (t + 1) (deepS ds deep k) := by
  have h1 := mxN_dp k.toNat _ deep h (by omega) (ns_of hc hk).1
  have h2 := h1.at (k := k.toNat) (by omega)
  exact (h1.mono (by omega)).set (by omega)
theorem foldl_dp {ds : List Nd} (hc : checkL ds = 0) : ∀ (l : List Int) (t : Int) (deep : List Int), Dp ds.length t deep → (∀ k ∈ l, 0 ≤ k ∧ k < ds.length) → Dp ds.length (t + l.length) (l.foldl (deepS ds) deep)
  | [], t, deep, h, _ => by simpa using h
  | k :: l, t, deep, h, hl => by
    have := foldl_dp hc l (t + 1) _ (deepS_dp hc h (hl k (by simp))) fun x hx => hl x (by simp [hx])
    rw [List.foldl_cons]
    exact this.mono (by simp only [List.length_cons]; omega)
theorem zero_dp (n : Nat) : Dp n 0 (List.replicate n 0) := ⟨List.length_replicate, fun y hy => by rw [List.eq_of_mem_replicate hy]; omega⟩
theorem deepL_dp {ds : List Nd} (hc : checkL ds = 0) : Dp ds.length ds.length (deepL ds) := by
  have := foldl_dp hc (orderL ds) 0 _ (zero_dp ds.length) order_in
  rw [order_len hc] at this
  exact this.mono (by omega)
theorem mxF_ge : ∀ (l : List Int) (m : Int), m ≤ mxF m l ∧ ∀ x ∈ l, x ≤ mxF m l
  | [], m => ⟨Int.le_refl m, fun x hx => by cases hx⟩
  | y :: l, m => by
    have h := mxF_ge l (max m y)
    rw [mxF]
    refine ⟨by omega, fun x hx => ?_⟩
    rcases List.mem_cons.1 hx with rfl | hx
    · omega
    · exact h.2 x hx
theorem mxF_le {t : Int} : ∀ (l : List Int) (m : Int), m ≤ t → (∀ x ∈ l, x ≤ t) → mxF m l ≤ t
  | [], m, h, _ => h
  | y :: l, m, h, hl => mxF_le l _ (by have := hl y (by simp); omega) fun x hx => hl x (by simp [hx])
theorem maxL_ge {l : List Int} {x : Int} (hx : x ∈ l) : x ≤ maxL l := by
  cases l with
  | nil => cases hx
  | cons y l =>
    have h := mxF_ge l y
    show x ≤ mxF y l
    rcases List.mem_cons.1 hx with rfl | hx
    · exact h.1
    · exact h.2 x hx
theorem maxL_le {l : List Int} {t : Int} (h0 : l ≠ []) (h : ∀ x ∈ l, x ≤ t) : maxL l ≤ t := by
  cases l with
  | nil => exact absurd rfl h0
  | cons y l => exact mxF_le l y (h y (by simp)) fun x hx => h x (by simp [hx])
theorem depth_in {ds : List Nd} (hc : checkL ds = 0) : 1 ≤ depthL ds ∧ depthL ds ≤ ds.length := by
  have hn := (check_in hc).1
  have hd := deepL_dp hc
  rw [depthL, if_pos hc]
  refine ⟨?_, maxL_le (fun e => by have := hd.1; rw [e] at this; simp at this; omega) fun x hx => (hd.2 x hx).2⟩
  have hol := order_len hc
  obtain ⟨l, k, hlk⟩ : ∃ l k, orderL ds = l ++ [k] := ⟨_, _, (List.dropLast_concat_getLast (l := orderL ds) (fun e => by rw [e] at hol; simp at hol; omega)).symm⟩
  have hk : 0 ≤ k ∧ k < ds.length := order_in k (by rw [hlk]; simp)
  have h1 := foldl_dp hc l 0 _ (zero_dp ds.length) fun x hx => order_in x (by rw [hlk]; simp [hx])
  have h2 := mxN_dp k.toNat _ _ h1 (by omega) (ns_of hc hk).1
  have h3 := h2.at (k := k.toNat) (by omega)
  have h4 : deepL ds = deepS ds (l.foldl (deepS ds) (List.replicate ds.length 0)) k := by
    rw [deepL, hlk, List.foldl_append]; rfl
  have h5 : gt (mxN k.toNat (l.foldl (deepS ds) (List.replicate ds.length 0)) (gt ds k.toNat).ns) k.toNat + 1 ∈ deepL ds := by
    rw [h4, deepS]
    exact List.mem_set (by rw [h2.1]; omega) _
  have := maxL_ge h5
  omega
end Go.Proofs.Ytjhemkeilagnnaa.Mir
