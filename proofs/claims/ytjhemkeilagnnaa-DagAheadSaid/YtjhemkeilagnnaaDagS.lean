/- slices.Sort of ints told by its contract: a live row is put in order. -/
import Derived.Test.YtjhemkeilagnnaaMirSorted
import Derived.Test.YtjhemkeilagnnaaT
namespace Go.Proofs.Ytjhemkeilagnnaa.Mir
open Go Go.RowKit Go.Shelf Go.Maps Go.Sort
set_option linter.unusedVariables false
set_option linter.unusedSimpArgs false

def sortL (l : List Int) : List Int := isort (fun x y => decide (x ≤ y)) l
theorem sortL_perm (l : List Int) : (sortL l).Perm l := isort_perm _ l
theorem sortL_len (l : List Int) : (sortL l).length = l.length := (sortL_perm l).length_eq
theorem sortL_rise (l : List Int) : (sortL l).Pairwise (· ≤ ·) := by
  have := isort_pairwise (le := fun x y : Int => decide (x ≤ y)) (fun a b c h1 h2 => by simp at *; omega) (fun a b => by simp; omega) l
  exact this.imp (fun h => by simpa using h)
theorem sortL_merge (l : List Int) : l.mergeSort (fun x y => decide (x ≤ y)) = sortL l :=
  isort_eq (fun a b c h1 h2 => by simp at *; omega) (fun a b => by simp; omega) (fun a b h1 h2 => by simp at *; omega) (List.Perm.refl l)
theorem putCells_row {enc : Int → Value} {pre us post : List Value} {d : List Int} (h : us.length = d.length) : putCells enc pre.length d.toArray (pre ++ us ++ post).toArray = (pre ++ d.map enc ++ post).toArray := by
  apply Array.toList_inj.1
  apply List.ext_getElem?
  intro i
  simp only [putCells, Array.toList_mapIdx, List.getElem?_mapIdx, List.append_assoc]
  by_cases h1 : i < pre.length
  · rw [List.getElem?_append_left h1, List.getElem?_append_left h1, List.getElem?_eq_getElem h1]
    simp; omega
  · rw [List.getElem?_append_right (l₁ := pre) (l₂ := us ++ post) (by omega), List.getElem?_append_right (l₁ := pre) (l₂ := d.map enc ++ post) (by omega)]
    by_cases h2 : i - pre.length < d.length
    · rw [List.getElem?_append_left (l₁ := us) (by omega), List.getElem?_append_left (l₁ := d.map enc) (by simpa using h2), List.getElem?_eq_getElem (l := us) (by omega), List.getElem?_map, List.getElem?_eq_getElem h2]
      simp only [Option.map_some]
      rw [if_pos ⟨by omega, by simp; omega⟩]
      simp [h2]
    · rw [List.getElem?_append_right (l₁ := us) (by omega), List.getElem?_append_right (l₁ := d.map enc) (by simp; omega), List.length_map, h]
      generalize post[i - pre.length - d.length]? = o
      cases o with
      | none => rfl
      | some v =>
        simp only [Option.map_some]
        rw [if_neg (by simp; omega)]
theorem heap_row {w : World} {g off m : Nat} {os : Array Obj} {cur : Array Value} {e : TypeId} {fr : Nat × Nat} (d : Array Int) (hb : w.heap[g]? = some (.cells cur e fr)) :
    (grow (putRow (Value.int .i64) (Sort.ahead w m) g off d) os).heap[g]? = some (.cells (putCells (Value.int .i64) off d cur) e fr) := by
  have hg : g < w.heap.size := (Array.getElem?_eq_some_iff.1 hb).1
  rw [heap_grow_old _ _ (by simpa using hg)]
  simp [putRow, mapBlock, Sort.ahead, Array.getElem?_modify, hb, onCells]
theorem heap_other {w : World} {g off m k : Nat} {os : Array Obj} (d : Array Int) (hk : k < w.heap.size) (hne : k ≠ g) :
    (grow (putRow (Value.int .i64) (Sort.ahead w m) g off d) os).heap[k]? = w.heap[k]? := by
  rw [heap_grow_old _ _ (by simpa using hk)]
  have : g ≠ k := fun e => hne e.symm
  simp [putRow, mapBlock, Sort.ahead, Array.getElem?_modify, this]
theorem sort_has : ∃ fn, Try.prog.funcs[61]? = some fn ∧ fn.body.isSome = true := by
  have h : ((Try.prog.funcs[61]?).bind fun fn => fn.body).isSome = true := by kernel_rfl
  cases hf : Try.prog.funcs[61]? with
  | none => rw [hf] at h; cases h
  | some fn => rw [hf] at h; exact ⟨fn, rfl, h⟩
theorem c_int_Sort0 : Con Try.prog 61 [.f (.v (.slice none 0 0))] [] fun r H' => r = .tp [] ∧ H' = [] := by
  refine ⟨sort_has, fun w φ X vs hH hargs => ?_⟩
  obtain ⟨v, rfl, hv⟩ := one_arg1 hargs
  cases hv with | f hv => cases hv with | v _ =>
  have c := AnyM.slices_Sort_int_none Ytjhemkeilagnnaa.sortL none 0 w
  change Calls Try.prog 61 _ _ _ at c
  refine c.mono ?_
  rintro e w' ⟨rfl, rfl⟩
  exact ⟨_, _, _, rfl, ⟨rfl, rfl⟩, LeavesW.of (Leaves.quiet hH (.tp rfl (fun i d u hd => by simp at hd)))⟩
theorem c_int_Sort (l : List Int) (n : Nat) (hn : l.length = n + 1) (hl : l.length ≤ 1000000) :
    Con Try.prog 61 [.sl 0 0 (n + 1)] [.data 3 (l.map iF)] fun r H' => r = .tp [] ∧ H' = [.data 3 ((sortL l).map iF)] := by
  refine ⟨sort_has, fun w φ X vs hH hargs => ?_⟩
  obtain ⟨v, rfl, hv⟩ := one_arg1 hargs
  obtain ⟨pre, us, post, hblk, hpre, hul, hus⟩ := hH.rows 0 _ rfl
  have hus' : us = l.map (Value.int .i64) := by
    apply List.ext_getElem?
    intro j
    by_cases hj : j < l.length
    · have hju : j < us.length := by rw [hul]; simpa using hj
      have h1 : (l.map iF)[j]? = some (iF l[j]) := by rw [List.getElem?_map, List.getElem?_eq_getElem hj]; rfl
      have h2 := hus j _ us[j] h1 (List.getElem?_eq_getElem hju)
      rw [List.getElem?_eq_getElem hju, List.getElem?_map, List.getElem?_eq_getElem hj]
      generalize us[j] = u at h2 ⊢
      cases h2 with | v _ => rfl
    · rw [List.getElem?_eq_none (by rw [hul]; simpa using Nat.le_of_not_lt hj), List.getElem?_eq_none (by simpa using Nat.le_of_not_lt hj)]
  cases hv with | sl hr hcap hb hi hsz =>
  rename_i cap cs T fr i
  rw [hblk] at hb
  have hH1 : Holds (Value.int .i64) w (φ 0).1 ((φ 0).2 + 0) l.toArray := by
    intro j hj
    have hj' : j < l.length := by simpa using hj
    refine ⟨?_, by simp [World.frozen?, hblk]⟩
    simp only [World.cell?, hblk, Option.isSome_none, Bool.false_eq_true, if_false]
    rw [← Array.getElem?_toList, List.append_assoc, List.getElem?_append_right (by omega), List.getElem?_append_left (by rw [hus']; simp; omega), hus', Nat.add_zero, show (φ 0).2 + j - pre.length = j by omega]
    simp [hj']
  have c := AnyM.slices_Sort_int Ytjhemkeilagnnaa.sortL (φ 0).1 ((φ 0).2 + 0) cap l w hH1 (block_lt hblk) (by omega)
  rw [sortL_merge, hn] at c
  change Calls Try.prog 61 _ _ _ at c
  refine c.mono ?_
  rintro e w' ⟨rfl, m, os, rfl⟩
  have hnew := heap_row (m := m) (os := os) (off := (φ 0).2 + 0) (sortL l).toArray hblk
  have hcells : putCells (Value.int .i64) ((φ 0).2 + 0) (sortL l).toArray (pre ++ us ++ post).toArray = (pre ++ (sortL l).map (Value.int .i64) ++ post).toArray := by
    rw [Nat.add_zero, ← hpre, putCells_row (by rw [hus', List.length_map, sortL_len])]
  rw [hcells] at hnew
  have hkeep : Keep (fun b => true = true ∧ b = (φ 0).1) w (grow (putRow (Value.int .i64) (Sort.ahead w m) (φ 0).1 ((φ 0).2 + 0) (sortL l).toArray) os) := by
    refine ⟨?_, fun b hb1 hb2 => heap_other _ hb1 fun e => hb2 ⟨rfl, e⟩, fun b cs1 T1 fr1 h1 => ?_, rfl, rfl, rfl⟩
    · simp [grow, putRow, mapBlock, Sort.ahead]
    · by_cases hbg : b = (φ 0).1
      · subst hbg
        exact ⟨_, _, heap_row _ h1, by simp [putCells]⟩
      · exact ⟨_, _, (heap_other _ (block_lt h1) hbg).trans h1, rfl⟩
  obtain ⟨t1, t2, t3⟩ := hH.turn (r := 0) (row' := .data 3 ((sortL l).map iF)) rfl hkeep (fun _ => rfl) (fun hav => ⟨pre, (sortL l).map (Value.int .i64), post, hnew, hpre, by simp, fun j x u hx hu => by
    rw [List.getElem?_map] at hx hu
    cases hj : (sortL l)[j]? with
    | none => rw [hj] at hx; cases hx
    | some z => rw [hj] at hx hu; cases hx; cases hu; exact .v rfl⟩)
  have hlv : Leaves Try.prog w φ X [.data 3 (l.map iF)] ⟨.tp [], [(0, .data 3 ((sortL l).map iF))], []⟩ (.tuple #[]) (grow (putRow (Value.int .i64) (Sort.ahead w m) (φ 0).1 ((φ 0).2 + 0) (sortL l).toArray) os) :=
    ⟨φ, fun _ _ => rfl, t1, .tp rfl (fun i d u hd => by simp at hd), hkeep.mono (fun b _ h => h.2 ▸ live_of (r := 0) rfl rfl), t2⟩
  exact ⟨_, _, _, rfl, ⟨rfl, rfl⟩, LeavesW.of hlv⟩
end Go.Proofs.Ytjhemkeilagnnaa.Mir
