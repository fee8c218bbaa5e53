/- DiskOrder: what a crash leaves of works on one file, in plain lists. -/
import Derived.Test.YtjhemkeilagnnaaDiskO
import Derived.Test.YtjhemkeilagnnaaDiskG
namespace Go.Proofs.Ytjhemkeilagnnaa.Mir
open Go Go.RowKit
set_option linter.unusedVariables false
set_option linter.unusedSimpArgs false

def BB (l : List UInt8) : ByteArray := ⟨l.toArray⟩
theorem bb_size {l : List UInt8} : (BB l).size = l.length := by simp [BB, ByteArray.size]
theorem bb_app {l m : List UInt8} : BB l ++ BB m = BB (l ++ m) := by
  apply ByteArray.ext
  simp [BB, ByteArray.data_append]
theorem bb_take {l : List UInt8} {k : Nat} : (BB l).extract 0 k = BB (l.take k) := by
  apply ByteArray.ext
  simp [BB, ByteArray.data_extract]
theorem bb_inj {l m : List UInt8} : (BB l = BB m) = (l = m) := by
  apply propext
  constructor
  · intro h
    have := congrArg (fun b => b.data.toList) h
    simpa [BB] using this
  · rintro rfl; rfl
/-- The lists that are not empty, among the first i. -/
def neL (l : List (List UInt8)) (i : Nat) : List (List UInt8) := (l.take i).filter (fun b => !b.isEmpty)
theorem neL_0 {l : List (List UInt8)} : neL l 0 = [] := rfl
theorem neL_nil {l : List (List UInt8)} {i : Nat} (hi : i < l.length) (h : gt l i = []) : neL l (i + 1) = neL l i := by
  rw [gt_eq hi] at h
  unfold neL
  rw [List.take_add_one, List.filter_append, List.getElem?_eq_getElem hi, h]
  simp
theorem neL_cons {l : List (List UInt8)} {i : Nat} (hi : i < l.length) (h : gt l i ≠ []) : neL l (i + 1) = neL l i ++ [gt l i] := by
  rw [gt_eq hi] at h ⊢
  unfold neL
  rw [List.take_add_one, List.filter_append, List.getElem?_eq_getElem hi]
  simp [h]
theorem neL_len {l : List (List UInt8)} {i : Nat} : (neL l i).length ≤ i := by
  unfold neL
  refine Nat.le_trans (List.length_filter_le _ _) ?_
  rw [List.length_take]; omega
theorem neL_mem {l : List (List UInt8)} {i : Nat} {b : List UInt8} (h : b ∈ neL l i) : b ∈ l ∧ b ≠ [] := by
  unfold neL at h
  rw [List.mem_filter] at h
  refine ⟨List.mem_of_mem_take h.1, ?_⟩
  rintro rfl
  simp at h
theorem flat_len {m : Nat} : ∀ {l : List (List UInt8)}, (∀ b ∈ l, b.length ≤ m) → l.flatten.length ≤ l.length * m
  | [], _ => by simp
  | b :: l, h => by
    have h1 := h b (by simp)
    have h2 := flat_len (m := m) (l := l) fun c hc => h c (by simp [hc])
    simp only [List.flatten_cons, List.length_append, List.length_cons, Nat.add_mul]
    omega
theorem neL_flat {l : List (List UInt8)} {m : Nat} (h : ∀ b ∈ l, b.length ≤ m) (i : Nat) : (neL l i).flatten.length ≤ i * m :=
  Nat.le_trans (flat_len fun b hb => h b (neL_mem hb).1) (Nat.mul_le_mul_right m neL_len)
/-- Where each one ends. -/
def endsN (n : List (List UInt8)) : List Int := (List.range n.length).map fun j => ((n.take (j + 1)).flatten.length : Int)
theorem endsN_len {n : List (List UInt8)} : (endsN n).length = n.length := by simp [endsN]
theorem endsN_app {n : List (List UInt8)} {b : List UInt8} : endsN (n ++ [b]) = endsN n ++ [((n ++ [b]).flatten.length : Int)] := by
  unfold endsN
  rw [List.length_append, List.length_singleton, List.range_succ, List.map_append]
  congr 1
  · apply List.map_congr_left
    intro j hj
    rw [List.mem_range] at hj
    rw [List.take_append_of_le_length (by omega)]
  · simp only [List.map_cons, List.map_nil]
    rw [List.take_of_length_le (by simp)]
theorem endsN_at {n : List (List UInt8)} {j : Nat} (h : j < n.length) : (endsN n)[j]? = some ((n.take (j + 1)).flatten.length : Int) := by
  unfold endsN
  rw [List.getElem?_map, List.getElem?_range h]; rfl

def wks (n : List (List UInt8)) : List Wk := n.map fun b => ⟨0, b⟩
theorem wks_len {n : List (List UInt8)} : (wks n).length = n.length := by simp [wks]
theorem wks_at {n : List (List UInt8)} {i : Nat} (h : i < n.length) : gt (wks n) i = ⟨0, gt n i⟩ := by
  rw [gt_eq (by rw [wks_len]; exact h), gt_eq h]
  simp [wks]
theorem wks_app {n : List (List UInt8)} {b : List UInt8} : wks (n ++ [b]) = wks n ++ [(⟨0, b⟩ : Wk)] := by simp [wks]
/-- The one file's bytes. -/
def f0 (s : List UInt8) : Fs := fDo [] 0 s
theorem f0_get {s : List UInt8} : fGet (f0 s) 0 = opt s := by
  cases s <;> simp [f0, fDo, fPut, fGet, fDel, opt]
theorem f0_do {s b : List UInt8} (h : b ≠ []) : fDo (f0 s) 0 b = f0 (s ++ b) := by
  cases s <;> simp [f0, fDo, fPut, fGet, fDel, h]
theorem f0_ok {s : List UInt8} {B : Nat} (h : s.length ≤ B) : FsOk (f0 s) B := eA_ok s B h
/-- The part of the k-th. -/
def partL (n : List (List UInt8)) (p : Nat) (cut : Int) : List UInt8 := if p < n.length then (gt n p).take (restN cut ((gt n p).length + 1 : Nat)).toNat else []
def preL (n : List (List UInt8)) (p : Nat) (cut : Int) (i : Nat) : List UInt8 := (n.take (min i p)).flatten ++ if p < i then partL n p cut else []
theorem crF_f0 {n : List (List UInt8)} (hn : ∀ b ∈ n, b ≠ []) (p : Nat) (cut : Int) : ∀ i, i ≤ n.length → crF [] (wks n) p cut i = f0 (preL n p cut i)
  | 0, _ => by simp [crF, preL, f0, fDo, fDel]
  | i + 1, h => by
    have hi : i < n.length := by omega
    have hne : gt n i ≠ [] := hn _ (by rw [gt_eq hi]; exact List.getElem_mem hi)
    have hpl : (gt n i).length ≠ 0 := fun e => hne (List.eq_nil_of_length_eq_zero e)
    rw [crF, crF_f0 hn p cut i (by omega), wks_at hi]
    unfold stepC
    dsimp only
    by_cases h1 : i < p
    · rw [if_pos (by omega), f0_do hne]
      congr 1
      unfold preL
      rw [if_neg (by omega), if_neg (by omega), show min i p = i by omega, show min (i + 1) p = i + 1 by omega, List.take_add_one, List.getElem?_eq_getElem hi, gt_eq hi, List.append_nil, List.append_nil, List.flatten_append]
      simp
    · rw [if_neg (by omega)]
      by_cases h2 : i = p
      · subst h2
        unfold preL
        rw [if_neg (show ¬ i < i by omega), if_pos (show i < i + 1 by omega), Nat.min_self, show min (i + 1) i = i by omega, List.append_nil]
        unfold partL
        rw [if_pos hi]
        by_cases h4 : (gt n i).take (restN cut ((gt n i).length + 1 : Nat)).toNat = []
        · rw [if_neg (fun h3 => h3.2.2 h4), h4, List.append_nil]
        · rw [if_pos ⟨rfl, hne, h4⟩, f0_do h4]
      · rw [if_neg (by omega)]
        unfold preL
        rw [if_pos (by omega), if_pos (by omega), show min (i + 1) p = min i p by omega]
theorem part_len {n : List (List UInt8)} {p : Nat} {cut : Int} : (partL n p cut).length ≤ (gt n p).length := by
  unfold partL
  split
  · rw [List.length_take]; omega
  · simp
theorem flat_split {n : List (List UInt8)} {p : Nat} (h : p < n.length) : n.flatten = (n.take p).flatten ++ gt n p ++ (n.drop (p + 1)).flatten := by
  have h1 : n = n.take p ++ n[p] :: n.drop (p + 1) := by simp
  rw [gt_eq h]
  have h2 : n.flatten = (n.take p ++ n[p] :: n.drop (p + 1)).flatten := by rw [← h1]
  rw [h2, List.flatten_append, List.flatten_cons, List.append_assoc]
theorem flat_upto {n : List (List UInt8)} {p : Nat} : n.flatten = (n.take p).flatten ++ (n.drop p).flatten := by
  rw [← List.flatten_append, List.take_append_drop]
theorem take_flat_len {n : List (List UInt8)} {p : Nat} : (n.take p).flatten.length ≤ n.flatten.length := by
  rw [flat_upto (n := n) (p := p), List.length_append]; omega
/-- What is there is a beginning of all. -/
theorem pre_take {n : List (List UInt8)} {p : Nat} {cut : Int} (hp : p ≤ n.length) : n.flatten.take (preL n p cut n.length).length = preL n p cut n.length := by
  unfold preL
  rw [show min n.length p = p by omega]
  by_cases h : p < n.length
  · rw [if_pos h]
    unfold partL
    rw [if_pos h, flat_split h, List.append_assoc, List.length_append, List.take_append, List.take_of_length_le (by omega)]
    congr 1
    rw [show (n.take p).flatten.length + ((gt n p).take (restN cut ((gt n p).length + 1 : Nat)).toNat).length - (n.take p).flatten.length = ((gt n p).take (restN cut ((gt n p).length + 1 : Nat)).toNat).length by omega]
    rw [List.take_append_of_le_length (by rw [List.length_take]; omega), List.length_take, List.take_eq_take_iff]
    omega
  · rw [if_neg h, List.append_nil, show p = n.length by omega, List.take_length, List.take_length]
theorem pre_len {n : List (List UInt8)} {p : Nat} {cut : Int} {i : Nat} (hi : i ≤ n.length) : (preL n p cut i).length ≤ n.flatten.length := by
  unfold preL
  by_cases h : p < i
  · rw [if_pos h, show min i p = p by omega, flat_split (n := n) (p := p) (by omega), List.length_append, List.length_append, List.length_append]
    have := part_len (n := n) (p := p) (cut := cut)
    omega
  · rw [if_neg h, List.append_nil]
    exact take_flat_len
theorem pre_least {n : List (List UInt8)} {p : Nat} {cut : Int} (hp : p ≤ n.length) : (n.take p).flatten.length ≤ (preL n p cut n.length).length := by
  unfold preL
  rw [show min n.length p = p by omega, List.length_append]; omega
theorem pre_most {n : List (List UInt8)} {p : Nat} {cut : Int} (hp : p < n.length) : (preL n p cut n.length).length ≤ (n.take (p + 1)).flatten.length := by
  unfold preL
  have := part_len (n := n) (p := p) (cut := cut)
  rw [show min n.length p = p by omega, List.length_append, if_pos hp, List.take_add_one, List.getElem?_eq_getElem hp]
  rw [gt_eq hp] at this
  simp only [Option.toList_some, List.flatten_append, List.length_append, List.flatten_cons, List.flatten_nil, List.length_nil]
  omega
end Go.Proofs.Ytjhemkeilagnnaa.Mir
