/- What the order of a graph is, and what is ready: plain lists. -/
import Derived.Test.YtjhemkeilagnnaaDagC
namespace Go.Proofs.Ytjhemkeilagnnaa.Mir
open Go Go.RowKit
set_option linter.unusedVariables false
set_option linter.unusedSimpArgs false

/-- The order from a state on. -/
def sqF (ds : List Nd) : Nat → List Bool → List Int
  | 0, _ => []
  | n + 1, done => if nxt done 0 ds < 0 then [] else nxt done 0 ds :: sqF ds n (done.set (nxt done 0 ds).toNat true)
theorem ordF_seq (ds : List Nd) : ∀ (n : Nat) (done : List Bool) (out : List Int), ordF ds n done out = out ++ sqF ds n done
  | 0, done, out => by simp [ordF, sqF]
  | n + 1, done, out => by
    unfold ordF sqF
    split
    · simp
    · rw [ordF_seq ds n]; simp
theorem sqF_len (ds : List Nd) : ∀ (n : Nat) (done : List Bool), (sqF ds n done).length ≤ n
  | 0, done => by simp [sqF]
  | n + 1, done => by
    unfold sqF
    split
    · simp
    · have := sqF_len ds n (done.set (nxt done 0 ds).toNat true)
      simp; omega
theorem orderL_seq (ds : List Nd) : orderL ds = sqF ds ds.length (List.replicate ds.length false) := by rw [orderL, ordF_seq, List.nil_append]
/-- One step of an order that is whole. -/
theorem sqF_step {ds : List Nd} {n : Nat} {done : List Bool} (h : (sqF ds (n + 1) done).length = n + 1) :
    0 ≤ nxt done 0 ds ∧ sqF ds (n + 1) done = nxt done 0 ds :: sqF ds n (done.set (nxt done 0 ds).toNat true) ∧ (sqF ds n (done.set (nxt done 0 ds).toNat true)).length = n := by
  have e : sqF ds (n + 1) done = if nxt done 0 ds < 0 then [] else nxt done 0 ds :: sqF ds n (done.set (nxt done 0 ds).toNat true) := rfl
  by_cases hx : nxt done 0 ds < 0
  · rw [e, if_pos hx] at h; simp at h
  · rw [if_neg hx] at e
    rw [e] at h
    exact ⟨by omega, e, by simpa using h⟩
theorem nxt_in (done : List Bool) : ∀ (k : Nat) (ds : List Nd), 0 ≤ nxt done k ds → (k : Int) ≤ nxt done k ds ∧ nxt done k ds < k + ds.length ∧ gt done (nxt done k ds).toNat = false
  | k, [], h => by simp [nxt] at h
  | k, d :: ds, h => by
    unfold nxt at h ⊢
    split
    · rename_i hc
      simp at hc
      simp [hc.1]; omega
    · rename_i hc
      rw [if_neg hc] at h
      obtain ⟨h1, h2, h3⟩ := nxt_in done (k + 1) ds h
      refine ⟨by omega, ?_, h3⟩
      simp only [List.length_cons]; omega
/-- What is next is the first one that is ready. -/
theorem rdy_head (done : List Bool) : ∀ (k : Nat) (ds : List Nd), k + ds.length = done.length → 0 ≤ nxt done k ds → ∃ l, rdy done k ds = nxt done k ds :: l
  | k, [], _, h => by simp [nxt] at h
  | k, d :: ds, hl, h => by
    have hk : inB done k = gt done k := inB_gt (by simp at hl; omega)
    unfold nxt at h ⊢
    unfold rdy
    rw [hk]
    split
    · exact ⟨_, rfl⟩
    · rename_i hc
      rw [if_neg hc] at h
      exact rdy_head done (k + 1) ds (by simp at hl; omega) h
theorem rdy_done (done : List Bool) (hd : ∀ b ∈ done, b = true) : ∀ (k : Nat) (ds : List Nd), k + ds.length = done.length → rdy done k ds = []
  | k, [], _ => rfl
  | k, d :: ds, hl => by
    have hk : inB done k = gt done k := inB_gt (by simp at hl; omega)
    have hg : gt done k = true := hd _ (gt_mem (by simp at hl; omega))
    unfold rdy
    rw [hk, hg]
    exact rdy_done done hd (k + 1) ds (by simp at hl; omega)

/-- How many are open. -/
def opn (done : List Bool) : Nat := done.count false
theorem opn_set {done : List Bool} {k : Nat} (hk : k < done.length) (h : gt done k = false) : opn (done.set k true) + 1 = opn done := by
  unfold opn
  have h1 : done[k] = false := by rw [← gt_eq hk]; exact h
  have hpos : 0 < done.count false := List.count_pos_iff.2 (h1 ▸ List.getElem_mem hk)
  rw [List.count_set hk]
  simp [h1]; omega
theorem opn_none {done : List Bool} (h : opn done = 0) : ∀ b ∈ done, b = true := fun b hb => by
  cases b with
  | true => rfl
  | false => exact absurd (List.count_pos_iff.2 hb) (by unfold opn at h; omega)
theorem opn_all (n : Nat) : opn (List.replicate n false) = n := by simp [opn]

/-- Where the law stands behind i nodes. -/
structure AtD (ds : List Nd) (i : Nat) (done : List Bool) : Prop where
  le : i ≤ ds.length
  len : done.length = ds.length
  open' : opn done + i = ds.length
  rest : (orderL ds).drop i = sqF ds (ds.length - i) done
theorem AtD.start {ds : List Nd} : AtD ds 0 (List.replicate ds.length false) := ⟨Nat.zero_le _, List.length_replicate, by rw [opn_all]; rfl, by rw [orderL_seq]; rfl⟩
theorem order_len {ds : List Nd} (h : checkL ds = 0) : (orderL ds).length = ds.length := by
  have h1 := (check_in h).2.2.2
  have h2 := sqF_len ds ds.length (List.replicate ds.length false)
  rw [← orderL_seq] at h2
  omega
theorem AtD.step {ds : List Nd} (hc : checkL ds = 0) {i : Nat} {done : List Bool} (h : AtD ds i done) (hi : i < ds.length) :
    0 ≤ gt (orderL ds) i ∧ gt (orderL ds) i < ds.length ∧ gt done (gt (orderL ds) i).toNat = false ∧ (∃ l, readyL ds done = gt (orderL ds) i :: l) ∧ AtD ds (i + 1) (done.set (gt (orderL ds) i).toNat true) := by
  have hlen := order_len hc
  have hd := drop_gt (l := orderL ds) (k := i) (by omega)
  have hs := h.rest
  obtain ⟨m, hm⟩ : ∃ m, ds.length - i = m + 1 := ⟨ds.length - i - 1, by omega⟩
  have hl : (sqF ds (m + 1) done).length = m + 1 := by rw [← hm, ← hs, List.length_drop]; omega
  obtain ⟨h0, h1, h2⟩ := sqF_step hl
  rw [hm, h1, hd] at hs
  injection hs with hs1 hs2
  obtain ⟨n1, n2, n3⟩ := nxt_in done 0 ds h0
  obtain ⟨l, hl⟩ := rdy_head done 0 ds (by simpa using h.len.symm) h0
  rw [hs1]
  have hk : (nxt done 0 ds).toNat < done.length := by have := h.len; omega
  refine ⟨h0, by simpa using n2, n3, ⟨l, by rw [readyL, if_pos hc]; exact hl⟩, hi, by simp [h.len], ?_, ?_⟩
  · have := opn_set hk n3
    have := h.open'
    omega
  · rw [show ds.length - (i + 1) = m by omega, hs2]
theorem AtD.ends {ds : List Nd} {done : List Bool} (h : AtD ds ds.length done) : readyL ds done = [] := by
  unfold readyL
  split
  · exact rdy_done done (opn_none (by have := h.open'; omega)) 0 ds (by simpa using h.len.symm)
  · rfl
end Go.Proofs.Ytjhemkeilagnnaa.Mir
