/- Texts laid into one file: MirSorted, DagS, DiskJ, DiskO, DiskG, DiskOM, DiskFM, DplM, MirExtD, DiskFK, DplN, DplR. -/
import Derived.Test.YtjbkckhpoicaeaaDp08
import Derived.Ground.GgzProg
import Derived.Ground.SlgmProg

set_option linter.unusedVariables false
set_option linter.unusedSimpArgs false
/- slices.Sorted(maps.Keys(m)) told by its contract: keys that are ints. -/
namespace Go.Proofs
open Go.RowKit Go.Maps Go.Sort Go.Shelf
def Ytjbkckhpoicaeaa.keysL_ren : Go.Shelf.Ren := ⟨fun | 7 => 53 | 10 => 68 | n => n, fun | 23 => 73 | 26 => 3 | 3 => 41 | 28 => 84 | 0 => 0 | 27 => 83 | 33 => 97 | 4 => 4 | n => n, fun | n => n⟩
theorem Ytjbkckhpoicaeaa.keysL : Go.Proofs.SlLaysZI.n7 Try.prog Ytjbkckhpoicaeaa.keysL_ren := {
  mixed := by kernel_rfl
  f7 := ⟨Try.f53.name, by decide, Try.func53.trans (congrArg some (by kernel_rfl))⟩
  f10 := ⟨Try.f68.name, by decide, Try.func68.trans (congrArg some (by kernel_rfl))⟩
  t0 := Try.underlying0
  a0 := Try.isAgg0
  z0 := Try.sizeOf0
  v0 := Try.zeroValue0
  t4 := Try.underlying4
  a4 := Try.isAgg4
  z4 := Try.sizeOf4
  v4 := Try.zeroValue4
  t23 := Try.underlying73
  a23 := Try.isAgg73
  z23 := Try.sizeOf73
  v23 := Try.zeroValue73
  t26 := Try.underlying3
  a26 := Try.isAgg3
  z26 := Try.sizeOf3
  v26 := Try.zeroValue3
  t27 := Try.underlying83
  a27 := Try.isAgg83
  z27 := Try.sizeOf83
  v27 := Try.zeroValue83
  t28 := Try.underlying84
  a28 := Try.isAgg84
  z28 := Try.sizeOf84
  v28 := Try.zeroValue84
  t33 := Try.underlying97
  a33 := Try.isAgg97
  z33 := Try.sizeOf97
  v33 := Try.zeroValue97 }

def Ytjbkckhpoicaeaa.sortedL_ren : Go.Shelf.Ren := ⟨fun | 6 => 52 | 8 => 67 | 9 => 47 | 11 => 82 | 13 => 65 | 12 => 64 | 23 => 80 | 24 => 81 | 14 => 71 | 15 => 72 | 16 => 73 | 17 => 74 | 18 => 75 | 19 => 76 | 20 => 77 | 21 => 78 | 22 => 79 | 25 => 84 | 26 => 85 | 27 => 86 | 28 => 87 | 29 => 88 | 30 => 89 | 31 => 90 | n => n, fun | 26 => 3 | 28 => 84 | 24 => 23 | 0 => 0 | 3 => 3 | 37 => 95 | 48 => 109 | 50 => 111 | 4 => 4 | 40 => 101 | 39 => 100 | 45 => 106 | 5 => 5 | 9 => 9 | 51 => 114 | 55 => 118 | 57 => 120 | 58 => 121 | 33 => 97 | n => n, fun | n => n⟩
theorem Ytjbkckhpoicaeaa.sortedL : Go.Proofs.SlLaysZI.n6 Try.prog Ytjbkckhpoicaeaa.sortedL_ren := {
  mixed := by kernel_rfl
  f6 := ⟨Try.f52.name, by decide, Try.func52.trans (congrArg some (by kernel_rfl))⟩
  f8 := ⟨Try.f67.name, by decide, Try.func67.trans (congrArg some (by kernel_rfl))⟩
  f11 := ⟨Try.f82.name, by decide, Try.func82.trans (congrArg some (by kernel_rfl))⟩
  t0 := Try.underlying0
  a0 := Try.isAgg0
  z0 := Try.sizeOf0
  v0 := Try.zeroValue0
  t24 := Try.underlying23
  a24 := Try.isAgg23
  z24 := Try.sizeOf23
  v24 := Try.zeroValue23
  t26 := Try.underlying3
  a26 := Try.isAgg3
  z26 := Try.sizeOf3
  v26 := Try.zeroValue3
  t28 := Try.underlying84
  a28 := Try.isAgg84
  z28 := Try.sizeOf84
  v28 := Try.zeroValue84
  i26 := by kernel_rfl }

def Ytjbkckhpoicaeaa.sortL_ren : Go.Shelf.Ren := ⟨fun | 5 => 47 | 8 => 65 | 7 => 64 | 19 => 80 | 20 => 81 | 10 => 71 | 11 => 72 | 12 => 73 | 13 => 74 | 14 => 75 | 15 => 76 | 16 => 77 | 17 => 78 | 18 => 79 | 30 => 84 | 31 => 85 | 32 => 86 | 33 => 87 | 34 => 88 | 35 => 89 | 40 => 90 | n => n, fun | 23 => 23 | 25 => 3 | 3 => 3 | 32 => 95 | 22 => 23 | 0 => 0 | 44 => 109 | 46 => 111 | 4 => 4 | 36 => 101 | 35 => 100 | 41 => 106 | 5 => 5 | 9 => 9 | 53 => 114 | 57 => 118 | 63 => 120 | 64 => 121 | n => n, fun | n => n⟩
theorem Ytjbkckhpoicaeaa.sortL : Go.Proofs.SlLaysM.n5 Try.prog Ytjbkckhpoicaeaa.sortL_ren := {
  mixed := by kernel_rfl
  f5 := ⟨Try.f47.name, by decide, Try.func47.trans (congrArg some (by kernel_rfl))⟩
  f7 := ⟨Try.f64.name, by decide, Try.func64.trans (congrArg some (by kernel_rfl))⟩
  f8 := Try.func65.trans (congrArg some (by kernel_rfl))
  f10 := ⟨Try.f71.name, by decide, Try.func71.trans (congrArg some (by kernel_rfl))⟩
  f11 := ⟨Try.f72.name, by decide, Try.func72.trans (congrArg some (by kernel_rfl))⟩
  f12 := ⟨Try.f73.name, by decide, Try.func73.trans (congrArg some (by kernel_rfl))⟩
  f13 := ⟨Try.f74.name, by decide, Try.func74.trans (congrArg some (by kernel_rfl))⟩
  f14 := ⟨Try.f75.name, by decide, Try.func75.trans (congrArg some (by kernel_rfl))⟩
  f15 := ⟨Try.f76.name, by decide, Try.func76.trans (congrArg some (by kernel_rfl))⟩
  f16 := ⟨Try.f77.name, by decide, Try.func77.trans (congrArg some (by kernel_rfl))⟩
  f17 := ⟨Try.f78.name, by decide, Try.func78.trans (congrArg some (by kernel_rfl))⟩
  f18 := ⟨Try.f79.name, by decide, Try.func79.trans (congrArg some (by kernel_rfl))⟩
  f19 := Try.func80.trans (congrArg some (by kernel_rfl))
  f20 := Try.func81.trans (congrArg some (by kernel_rfl))
  f30 := ⟨Try.f84.name, by decide, Try.func84.trans (congrArg some (by kernel_rfl))⟩
  f31 := Try.func85.trans (congrArg some (by kernel_rfl))
  f32 := Try.func86.trans (congrArg some (by kernel_rfl))
  f33 := ⟨Try.f87.name, by decide, Try.func87.trans (congrArg some (by kernel_rfl))⟩
  f34 := ⟨Try.f88.name, by decide, Try.func88.trans (congrArg some (by kernel_rfl))⟩
  f35 := ⟨Try.f89.name, by decide, Try.func89.trans (congrArg some (by kernel_rfl))⟩
  f40 := ⟨Try.f90.name, by decide, Try.func90.trans (congrArg some (by kernel_rfl))⟩
  t0 := Try.underlying0
  a0 := Try.isAgg0
  z0 := Try.sizeOf0
  v0 := Try.zeroValue0
  t3 := Try.underlying3
  a3 := Try.isAgg3
  z3 := Try.sizeOf3
  v3 := Try.zeroValue3
  t4 := Try.underlying4
  a4 := Try.isAgg4
  z4 := Try.sizeOf4
  v4 := Try.zeroValue4
  t5 := Try.underlying5
  a5 := Try.isAgg5
  z5 := Try.sizeOf5
  v5 := Try.zeroValue5
  t9 := Try.underlying9
  a9 := Try.isAgg9
  z9 := Try.sizeOf9
  v9 := Try.zeroValue9
  t22 := Try.underlying23
  a22 := Try.isAgg23
  z22 := Try.sizeOf23
  v22 := Try.zeroValue23
  t23 := Try.underlying23
  a23 := Try.isAgg23
  z23 := Try.sizeOf23
  v23 := Try.zeroValue23
  t25 := Try.underlying3
  a25 := Try.isAgg3
  z25 := Try.sizeOf3
  v25 := Try.zeroValue3
  t32 := Try.underlying95
  a32 := Try.isAgg95
  z32 := Try.sizeOf95
  v32 := Try.zeroValue95
  t35 := Try.underlying100
  a35 := Try.isAgg100
  z35 := Try.sizeOf100
  v35 := Try.zeroValue100
  t36 := Try.underlying101
  a36 := Try.isAgg101
  z36 := Try.sizeOf101
  v36 := Try.zeroValue101
  t41 := Try.underlying106
  a41 := Try.isAgg106
  z41 := Try.sizeOf106
  v41 := Try.zeroValue106
  t44 := Try.underlying109
  a44 := Try.isAgg109
  z44 := Try.sizeOf109
  v44 := Try.zeroValue109
  t46 := Try.underlying111
  a46 := Try.isAgg111
  z46 := Try.sizeOf111
  v46 := Try.zeroValue111
  t53 := Try.underlying114
  a53 := Try.isAgg114
  z53 := Try.sizeOf114
  v53 := Try.zeroValue114
  t57 := Try.underlying118
  a57 := Try.isAgg118
  z57 := Try.sizeOf118
  v57 := Try.zeroValue118
  t63 := Try.underlying120
  a63 := Try.isAgg120
  z63 := Try.sizeOf120
  v63 := Try.zeroValue120
  t64 := Try.underlying121
  a64 := Try.isAgg121
  z64 := Try.sizeOf121
  v64 := Try.zeroValue121 }

end Go.Proofs
namespace Go.Proofs.Ytjbkckhpoicaeaa.Mir
open Go Go.RowKit Go.Shelf Go.Maps Go.Sort

def ofI : Value → Option Int
  | .int .i64 n => match decide (-9223372036854775808 ≤ n) && decide (n ≤ 9223372036854775807) with
    | true => some n
    | false => none
  | _ => none
def sortI (vs : List Value) : Option (List Value) := match keysV ofI vs with
  | some ks => match Nat.ble ks.length 1000000 with
    | true => some ((isort (fun x y => decide (x ≤ y)) ks).map encZ)
    | false => none
  | none => none
theorem sortI_eq {vs xs : List Value} (h : sortI vs = some xs) : ∃ ks, keysV ofI vs = some ks ∧ ks.length ≤ 1000000 ∧ xs = (isort (fun x y => decide (x ≤ y)) ks).map encZ := by
  unfold sortI at h
  split at h
  · rename_i ks hks
    split at h
    · rename_i hl
      cases h
      exact ⟨ks, hks, Nat.le_of_ble_eq_true hl, rfl⟩
    · cases h
  · cases h

theorem sortsI (m : Nat) : AnyZI.SortsIn Try.prog Ytjbkckhpoicaeaa.sortedL_ren Fence.wide m :=
  ⟨fun blk off cap ss W hH hblk hsz => callsIn_wide.2 (AnyM.slices_Sort_int Ytjbkckhpoicaeaa.sortL blk off cap ss W hH hblk hsz),
   fun p cap W => callsIn_wide.2 (AnyM.slices_Sort_int_none Ytjbkckhpoicaeaa.sortL p cap W)⟩

theorem sortedI_ok : Sound Try.prog 52 (sortedG 68 3 sortI) := by
  refine sortedG_ok (by kernel_rfl) ?_ ?_ ?_
  · intro l xs h x hx
    obtain ⟨ks, _, _, rfl⟩ := sortI_eq h
    obtain ⟨y, _, rfl⟩ := List.mem_map.1 hx
    rfl
  · intro w b hb hm
    refine (callsIn_wide (n := 5)).1 ?_
    have hseq : SeqGives Fence.wide 2 Try.prog 68 #[.pointer (some ⟨b, 0, none⟩)] encZ (fun ss : List Int => ss = []) 0 w :=
      AnyZI.keys_gives_nil (ρ := Ytjbkckhpoicaeaa.keysL_ren) { Ytjbkckhpoicaeaa.keysL with } Fence.wide _ trivial rfl b _ hb hm
    have cS := AnyZI.sorted_in Ytjbkckhpoicaeaa.sortedL Fence.wide 5 trivial trivial trivial trivial rfl (by omega) (sortsI _) (enters_of Try.func47 (by kernel_rfl) rfl) 68 #[.pointer (some ⟨b, 0, none⟩)] trivial (enters_of Try.func68 (by kernel_rfl) rfl) _ 0 (Nat.zero_le _) (by omega) _ hseq
    change CallsIn _ _ Try.prog 52 _ _ _ at cS
    refine cS.mono ?_
    rintro e w' ⟨v, ss, rfl, rfl, hrow, hnil, hb⟩
    obtain rfl : v = .slice none 0 0 := hnil.2 rfl
    exact ⟨rfl, hb⟩
  · intro w b q en clock xs hb hm hq hst hxs
    obtain ⟨ks, hks, hlen, rfl⟩ := sortI_eq hxs
    have hen : en.size = ks.length := by
      have : ∀ (l : List Value) (ks : List Int), keysV ofI l = some ks → l.length = ks.length := by
        intro l
        induction l with
        | nil => intro ks h; cases h; rfl
        | cons v l ih =>
          intro ks h
          unfold keysV at h
          split at h
          · split at h
            · rename_i hxs
              cases h
              simp [ih _ hxs]
            · cases h
          · cases h
      have := this _ _ hks
      simpa using this
    obtain ⟨es, hown, hperm, hel⟩ := owns_keys (P := Try.prog) (k := 3) ofI (Lit.int .i64) Go.intOf (fun _ => rfl) (fun v x h => by
      unfold ofI at h
      split at h
      · rename_i n
        split at h
        · rename_i hn
          cases h
          simp at hn
          have hk : Try.prog.underlying 3 = some (.int .i64) := by kernel_rfl
          simp [keyOf, hk, mapKey, Lit.wf]
          exact hn
        · cases h
      · cases h) hq hst hks (by simp [maxLen]; omega)
    refine (callsIn_wide (n := 5)).1 ?_
    have hseq : SeqGives Fence.wide 2 Try.prog 68 #[.pointer (some ⟨b, 0, none⟩)] encZ (fun ss => ss.Perm (intKeys (.map es))) (Maps.size (.map es)) w :=
      AnyZI.keys_gives (ρ := Ytjbkckhpoicaeaa.keysL_ren) { Ytjbkckhpoicaeaa.keysL with } Fence.wide _ trivial rfl (by omega) b q en.size (.map es) _ hb hm hown
    have cS := AnyZI.sorted_in Ytjbkckhpoicaeaa.sortedL Fence.wide 5 trivial trivial trivial trivial rfl (by omega) (sortsI _) (enters_of Try.func47 (by kernel_rfl) rfl) 68 #[.pointer (some ⟨b, 0, none⟩)] trivial (enters_of Try.func68 (by kernel_rfl) rfl) _ _ (by rw [Maps.size_eq, hel, hen]; simp [maxLen]; omega) (by rw [Maps.size_eq, hel, hen]; omega) _ hseq
    change CallsIn _ _ Try.prog 52 _ _ _ at cS
    refine cS.mono ?_
    rintro e w' ⟨v, ss, rfl, hS, hrow, hnil, hb⟩
    have hss : ss.Perm ks := hS.trans hperm
    have hsort := isort_eq (le := fun x y : Int => decide (x ≤ y)) (by intro a b c; simp; omega) (by intro a b; simp; omega) (by intro a b; simp; omega) hss
    refine ⟨v, rfl, ?_, ?_, hb⟩
    · rw [hsort] at hrow
      have : ss.length = ((isort (fun x y : Int => decide (x ≤ y)) ks).map encZ).length := by
        rw [← hsort]; simp
      rw [← this]; exact hrow
    · rw [hnil, List.map_eq_nil_iff, ← hsort]
      constructor
      · rintro rfl; simp
      · intro h
        have := congrArg List.length h
        simpa using this
end Go.Proofs.Ytjbkckhpoicaeaa.Mir

/- slices.Sort of ints told by its contract: a live row is put in order. -/
namespace Go.Proofs.Ytjbkckhpoicaeaa.Mir
open Go Go.RowKit Go.Shelf Go.Maps Go.Sort
set_option linter.unusedVariables false
set_option linter.unusedSimpArgs false

def sortL (l : List Int) : List Int := isort (fun x y => decide (x ≤ y)) l
theorem sortL_perm (l : List Int) : (sortL l).Perm l := isort_perm _ l
theorem sortL_len (l : List Int) : (sortL l).length = l.length := (sortL_perm l).length_eq
theorem sortL_rise (l : List Int) : (sortL l).Pairwise (· ≤ ·) := by
  have := isort_pairwise (le := fun x y : Int => decide (x ≤ y)) (fun a b c h1 h2 => by simp at *; omega) (fun a b => by simp; omega) l
  exact this.imp (fun h => by simpa using h)
theorem sortL_merge (l : List Int) : l.mergeSort (fun x y => decide (x ≤ y)) = sortL l :=
  isort_eq (fun a b c h1 h2 => by simp at *; omega) (fun a b => by simp; omega) (fun a b h1 h2 => by simp at *; omega) (List.Perm.refl l)
theorem putCells_row {enc : Int → Value} {pre us post : List Value} {d : List Int} (h : us.length = d.length) : putCells enc pre.length d.toArray (pre ++ us ++ post).toArray = (pre ++ d.map enc ++ post).toArray := by
  apply Array.toList_inj.1
  apply List.ext_getElem?
  intro i
  simp only [putCells, Array.toList_mapIdx, List.getElem?_mapIdx, List.append_assoc]
  by_cases h1 : i < pre.length
  · rw [List.getElem?_append_left h1, List.getElem?_append_left h1, List.getElem?_eq_getElem h1]
    simp; omega
  · rw [List.getElem?_append_right (l₁ := pre) (l₂ := us ++ post) (by omega), List.getElem?_append_right (l₁ := pre) (l₂ := d.map enc ++ post) (by omega)]
    by_cases h2 : i - pre.length < d.length
    · rw [List.getElem?_append_left (l₁ := us) (by omega), List.getElem?_append_left (l₁ := d.map enc) (by simpa using h2), List.getElem?_eq_getElem (l := us) (by omega), List.getElem?_map, List.getElem?_eq_getElem h2]
      simp only [Option.map_some]
      rw [if_pos ⟨by omega, by simp; omega⟩]
      simp [h2]
    · rw [List.getElem?_append_right (l₁ := us) (by omega), List.getElem?_append_right (l₁ := d.map enc) (by simp; omega), List.length_map, h]
      generalize post[i - pre.length - d.length]? = o
      cases o with
      | none => rfl
      | some v =>
        simp only [Option.map_some]
        rw [if_neg (by simp; omega)]
theorem heap_row {w : World} {g off m : Nat} {os : Array Obj} {cur : Array Value} {e : TypeId} {fr : Nat × Nat} (d : Array Int) (hb : w.heap[g]? = some (.cells cur e fr)) :
    (grow (putRow (Value.int .i64) (Sort.ahead w m) g off d) os).heap[g]? = some (.cells (putCells (Value.int .i64) off d cur) e fr) := by
  have hg : g < w.heap.size := (Array.getElem?_eq_some_iff.1 hb).1
  rw [heap_grow_old _ _ (by simpa using hg)]
  simp [putRow, mapBlock, Sort.ahead, Array.getElem?_modify, hb, onCells]
theorem heap_other {w : World} {g off m k : Nat} {os : Array Obj} (d : Array Int) (hk : k < w.heap.size) (hne : k ≠ g) :
    (grow (putRow (Value.int .i64) (Sort.ahead w m) g off d) os).heap[k]? = w.heap[k]? := by
  rw [heap_grow_old _ _ (by simpa using hk)]
  have : g ≠ k := fun e => hne e.symm
  simp [putRow, mapBlock, Sort.ahead, Array.getElem?_modify, this]
theorem sort_has : ∃ fn, Try.prog.funcs[47]? = some fn ∧ fn.body.isSome = true := by
  have h : ((Try.prog.funcs[47]?).bind fun fn => fn.body).isSome = true := by kernel_rfl
  cases hf : Try.prog.funcs[47]? with
  | none => rw [hf] at h; cases h
  | some fn => rw [hf] at h; exact ⟨fn, rfl, h⟩
theorem c_int_Sort0 : Con Try.prog 47 [.f (.v (.slice none 0 0))] [] fun r H' => r = .tp [] ∧ H' = [] := by
  refine ⟨sort_has, fun w φ X vs hH hargs => ?_⟩
  obtain ⟨v, rfl, hv⟩ := one_arg1 hargs
  cases hv with | f hv => cases hv with | v _ =>
  have c := AnyM.slices_Sort_int_none Ytjbkckhpoicaeaa.sortL none 0 w
  change Calls Try.prog 47 _ _ _ at c
  refine c.mono ?_
  rintro e w' ⟨rfl, rfl⟩
  exact ⟨_, _, _, rfl, ⟨rfl, rfl⟩, LeavesW.of (Leaves.quiet hH (.tp rfl (fun i d u hd => by simp at hd)))⟩
theorem c_int_Sort (l : List Int) (n : Nat) (hn : l.length = n + 1) (hl : l.length ≤ 1000000) :
    Con Try.prog 47 [.sl 0 0 (n + 1)] [.data 3 (l.map iF)] fun r H' => r = .tp [] ∧ H' = [.data 3 ((sortL l).map iF)] := by
  refine ⟨sort_has, fun w φ X vs hH hargs => ?_⟩
  obtain ⟨v, rfl, hv⟩ := one_arg1 hargs
  obtain ⟨pre, us, post, hblk, hpre, hul, hus⟩ := hH.rows 0 _ rfl
  have hus' : us = l.map (Value.int .i64) := by
    apply List.ext_getElem?
    intro j
    by_cases hj : j < l.length
    · have hju : j < us.length := by rw [hul]; simpa using hj
      have h1 : (l.map iF)[j]? = some (iF l[j]) := by rw [List.getElem?_map, List.getElem?_eq_getElem hj]; rfl
      have h2 := hus j _ us[j] h1 (List.getElem?_eq_getElem hju)
      rw [List.getElem?_eq_getElem hju, List.getElem?_map, List.getElem?_eq_getElem hj]
      generalize us[j] = u at h2 ⊢
      cases h2 with | v _ => rfl
    · rw [List.getElem?_eq_none (by rw [hul]; simpa using Nat.le_of_not_lt hj), List.getElem?_eq_none (by simpa using Nat.le_of_not_lt hj)]
  cases hv with | sl hr hcap hb hi hsz =>
  rename_i cap cs T fr i
  rw [hblk] at hb
  have hH1 : Holds (Value.int .i64) w (φ 0).1 ((φ 0).2 + 0) l.toArray := by
    intro j hj
    have hj' : j < l.length := by simpa using hj
    refine ⟨?_, by simp [World.frozen?, hblk]⟩
    simp only [World.cell?, hblk, Option.isSome_none, Bool.false_eq_true, if_false]
    rw [← Array.getElem?_toList, List.append_assoc, List.getElem?_append_right (by omega), List.getElem?_append_left (by rw [hus']; simp; omega), hus', Nat.add_zero, show (φ 0).2 + j - pre.length = j by omega]
    simp [hj']
  have c := AnyM.slices_Sort_int Ytjbkckhpoicaeaa.sortL (φ 0).1 ((φ 0).2 + 0) cap l w hH1 (block_lt hblk) (by omega)
  rw [sortL_merge, hn] at c
  change Calls Try.prog 47 _ _ _ at c
  refine c.mono ?_
  rintro e w' ⟨rfl, m, os, rfl⟩
  have hnew := heap_row (m := m) (os := os) (off := (φ 0).2 + 0) (sortL l).toArray hblk
  have hcells : putCells (Value.int .i64) ((φ 0).2 + 0) (sortL l).toArray (pre ++ us ++ post).toArray = (pre ++ (sortL l).map (Value.int .i64) ++ post).toArray := by
    rw [Nat.add_zero, ← hpre, putCells_row (by rw [hus', List.length_map, sortL_len])]
  rw [hcells] at hnew
  have hkeep : Keep (fun b => true = true ∧ b = (φ 0).1) w (grow (putRow (Value.int .i64) (Sort.ahead w m) (φ 0).1 ((φ 0).2 + 0) (sortL l).toArray) os) := by
    refine ⟨?_, fun b hb1 hb2 => heap_other _ hb1 fun e => hb2 ⟨rfl, e⟩, fun b cs1 T1 fr1 h1 => ?_, rfl, rfl, rfl⟩
    · simp [grow, putRow, mapBlock, Sort.ahead]
    · by_cases hbg : b = (φ 0).1
      · subst hbg
        exact ⟨_, _, heap_row _ h1, by simp [putCells]⟩
      · exact ⟨_, _, (heap_other _ (block_lt h1) hbg).trans h1, rfl⟩
  obtain ⟨t1, t2, t3⟩ := hH.turn (r := 0) (row' := .data 3 ((sortL l).map iF)) rfl hkeep (fun _ => rfl) (fun hav => ⟨pre, (sortL l).map (Value.int .i64), post, hnew, hpre, by simp, fun j x u hx hu => by
    rw [List.getElem?_map] at hx hu
    cases hj : (sortL l)[j]? with
    | none => rw [hj] at hx; cases hx
    | some z => rw [hj] at hx hu; cases hx; cases hu; exact .v rfl⟩)
  have hlv : Leaves Try.prog w φ X [.data 3 (l.map iF)] ⟨.tp [], [(0, .data 3 ((sortL l).map iF))], []⟩ (.tuple #[]) (grow (putRow (Value.int .i64) (Sort.ahead w m) (φ 0).1 ((φ 0).2 + 0) (sortL l).toArray) os) :=
    ⟨φ, fun _ _ => rfl, t1, .tp rfl (fun i d u hd => by simp at hd), hkeep.mono (fun b _ h => h.2 ▸ live_of (r := 0) rfl rfl), t2⟩
  exact ⟨_, _, _, rfl, ⟨rfl, rfl⟩, LeavesW.of hlv⟩
end Go.Proofs.Ytjbkckhpoicaeaa.Mir

/- The program's disk: Files, rising. -/
namespace Go.Proofs.Ytjbkckhpoicaeaa.Mir
open Go Go.RowKit Go.Shelf Go.Maps Go.Sort
set_option linter.unusedVariables false
set_option linter.unusedSimpArgs false
set_option maxHeartbeats 2000000

theorem c_maps_Keys (l : Fs) : Con Try.prog 53 [.mp 0] [.map (mF l)] fun r H' => r = .fn 68 [.pt 1 0] ∧ H' = [.map (mF l), .box 73 [.mp 0]] := by
  refine Con.walk good fn_maps_Keys (by simp) ?_
  unfold s_maps_Keys
  simp only [argsE, List.length_cons, List.length_nil, Nat.reduceAdd]
  repeat' (first | (with_reducible first | refine Wa.h ?_ | refine Ws.h ?_ | refine Wb.h fun K hK => ?_ | (refine hK _ ?_; clear hK K)) | ((with_reducible refine kQ ?_ ?_); kernel_rfl) | ((with_reducible refine k1 ?_ ?_); rfl) | ((with_reducible refine k0 ?_ ?_); rfl) | ((with_reducible apply kB) <;> first | rfl | intro h) | ((with_reducible refine kM ?_ ?_); rfl) | (with_reducible refine Wt.h (fun h => ?_) (fun h => ?_)) <;> try (exfalso; omega) | (with_reducible refine Wu.h (fun h => ?_) (fun h => ?_)) <;> try simp only [h] | ((fail_if_success with_reducible refine Wz.h ?_); simp (disch := omega) only [↓LD, LU, LS, LT, loadA_rf, seval]) | ((with_reducible refine And.intro ?_ ?_); omega) | ((fail_if_success with_reducible refine Wz.h ?_); simp only [D.int, D.bool]))
  exact endG rfl rfl (ef := ⟨.fn 68 [.pt 1 0], [(0, .map (mF l))], [.box 73 [.mp 0]]⟩) (by kernel_rfl) ⟨rfl, rfl⟩
/-- Files' numbers, all in their kind's bounds. -/
def KeysIn (l : Fs) : Prop := l.length ≤ 1000000 ∧ ∀ p ∈ l, -9223372036854775808 ≤ p.1 ∧ p.1 ≤ 9223372036854775807
theorem keysV_mF : ∀ l : Fs, (∀ p ∈ l, -9223372036854775808 ≤ p.1 ∧ p.1 ≤ 9223372036854775807) → keysV ofI ((mF l).map (·.1)) = some (l.map (·.1))
  | [], _ => rfl
  | p :: l, h => by
    have ih := keysV_mF l fun q hq => h q (by simp [hq])
    have hp := h p (by simp)
    unfold mF at ih ⊢
    simp only [List.map_cons, keysV, ih]
    have : ofI (.int .i64 p.1) = some p.1 := by
      show (match decide (-9223372036854775808 ≤ p.1) && decide (p.1 ≤ 9223372036854775807) with
        | true => some p.1
        | false => none) = some p.1
      rw [decide_eq_true hp.1, decide_eq_true hp.2]
      rfl
    rw [this]
theorem sortI_mF {l : Fs} (h : KeysIn l) : sortI ((mF l).map (·.1)) = some ((sortL (l.map (·.1))).map encZ) := by
  unfold sortI
  rw [keysV_mF l h.2]
  have : Nat.ble (l.map (·.1)).length 1000000 = true := by
    rw [List.length_map]; exact Nat.ble_eq_true_of_le h.1
  simp only [this]
  rfl
theorem enc_map (l : List Int) : (l.map encZ).map F.v = l.map iF := by rw [List.map_map]; rfl
theorem c_Sorted (l : Fs) (h : KeysIn l) : Con Try.prog 52 [.fn 68 [.pt 1 0]] [.map (mF l), .box 73 [.mp 0]]
    fun r H' => (l = [] ∧ r = .f (.v (.slice none 0 0)) ∧ H' = [.map (mF l), .box 73 [.mp 0]]) ∨ (l ≠ [] ∧ r = .sl 2 0 l.length ∧ H' = [.map (mF l), .box 73 [.mp 0], .data 3 ((sortL (l.map (·.1))).map iF)]) := by
  have hg : sortedG 68 3 sortI [.fn 68 [.pt 1 0]] [.map (mF l), .box 73 [.mp 0]] = some (resOf 3 2 ((sortL (l.map (·.1))).map encZ)) := by
    show (match sortI ((mF l).map (·.1)) with
      | some xs => some (resOf 3 2 xs)
      | none => none) = _
    rw [sortI_mF h]
  refine (Con.sound sortedI_ok (has_of (by kernel_rfl)) hg).mono ?_
  rintro r H' ⟨rfl, rfl⟩
  have hlen : (sortL (l.map (·.1))).length = l.length := by rw [sortL_len, List.length_map]
  by_cases hl : l = []
  · subst hl
    exact .inl ⟨rfl, rfl, rfl⟩
  · have hne : ((sortL (l.map (·.1))).map encZ).isEmpty = false := by
      cases hs : sortL (l.map (·.1)) with
      | nil => rw [hs] at hlen; exact absurd (List.eq_nil_of_length_eq_zero hlen.symm) hl
      | cons x s => rfl
    refine .inr ⟨hl, ?_, ?_⟩
    · unfold resOf
      rw [hne]
      show D.sl 2 0 ((sortL (l.map (·.1))).map encZ).length = _
      rw [List.length_map, hlen]
    · unfold resOf
      rw [hne]
      show [Row.map (mF l), .box 73 [.mp 0]] ++ [Row.data 3 (((sortL (l.map (·.1))).map encZ).map F.v)] = _
      rw [enc_map]; rfl
/-- The rows behind Files. -/
def dkF (e1 e2 : Fs) (n : Nat) (ws : List Wk) (fuse : Int) (dead : Bool) (works : Int) : D × List Row := match n, e2 with
  | n, [] => (.f (.v (.slice none 0 0)), dkR e1 [] n ws fuse dead works)
  | 0, p :: e => (.sl 3 0 (e.length + 1), dkR e1 (p :: e) 0 ws fuse dead works ++ [.data 3 ((sortL ((p :: e).map (·.1))).map iF)])
  | m + 1, p :: e => (.sl 4 0 (e.length + 1), dkR e1 (p :: e) (m + 1) ws fuse dead works ++ [.data 3 ((sortL ((p :: e).map (·.1))).map iF)])
set_option maxRecDepth 100000 in
theorem c_disk_Files (e1 e2 : Fs) (n : Nat) (ws : List Wk) (fuse : Int) (works : Int) (h : KeysIn e2) :
    Con Try.prog 19 [.pt 0 0] (dkR e1 e2 n ws fuse false works) fun r H' => r = (dkF e1 e2 n ws fuse false works).1 ∧ H' = (dkF e1 e2 n ws fuse false works).2 := by
  refine Con.walk good fn_disk_Files (by simp) ?_
  unfold s_disk_Files
  simp only [argsE, List.length_cons, List.length_nil, Nat.reduceAdd]
  rcases n with _ | n <;> rcases e2 with _ | ⟨p, e2⟩
  · repeat' (first | (with_reducible first | refine Wa.h ?_ | refine Ws.h ?_ | refine Wb.h fun K hK => ?_ | (refine hK _ ?_; clear hK K)) | ((with_reducible refine kQ ?_ ?_); kernel_rfl) | ((with_reducible refine k1 ?_ ?_); rfl) | ((with_reducible refine k0 ?_ ?_); rfl) | ((with_reducible apply kB) <;> first | rfl | intro h) | ((with_reducible refine kM ?_ ?_); rfl) | (with_reducible refine Wt.h (fun h => ?_) (fun h => ?_)) <;> try (exfalso; omega) | (with_reducible refine Wu.h (fun h => ?_) (fun h => ?_)) <;> try simp only [h] | ((fail_if_success with_reducible refine Wz.h ?_); simp (disch := omega) only [↓LD, LU, LS, LT, loadA_rf, seval, dkR, dkB, dkP]) | ((with_reducible refine And.intro ?_ ?_); omega) | ((fail_if_success with_reducible refine Wz.h ?_); simp only [D.int, D.bool]))
    refine callW_emb (c_maps_Keys []) [2] (by kernel_rfl) rfl rfl ?_
    rintro _ _ ⟨rfl, rfl⟩
    repeat' (first | (with_reducible first | refine Wa.h ?_ | refine Ws.h ?_ | refine Wb.h fun K hK => ?_ | (refine hK _ ?_; clear hK K)) | ((with_reducible refine kQ ?_ ?_); kernel_rfl) | ((with_reducible refine k1 ?_ ?_); rfl) | ((with_reducible refine k0 ?_ ?_); rfl) | ((with_reducible apply kB) <;> first | rfl | intro h) | ((with_reducible refine kM ?_ ?_); rfl) | (with_reducible refine Wt.h (fun h => ?_) (fun h => ?_)) <;> try (exfalso; omega) | (with_reducible refine Wu.h (fun h => ?_) (fun h => ?_)) <;> try simp only [h] | ((fail_if_success with_reducible refine Wz.h ?_); simp (disch := omega) only [↓LD, LU, LS, LT, loadA_rf, seval, List.append_nil, ren, List.getElem?_nil]) | ((with_reducible refine And.intro ?_ ?_); omega) | ((fail_if_success with_reducible refine Wz.h ?_); simp only [D.int, D.bool]))
    refine callW_emb (c_Sorted [] h) [2, 3] (by kernel_rfl) rfl rfl ?_
    rintro _ _ (⟨_, rfl, rfl⟩ | ⟨hne, rfl, rfl⟩)
    · repeat' (first | (with_reducible first | refine Wa.h ?_ | refine Ws.h ?_ | refine Wb.h fun K hK => ?_ | (refine hK _ ?_; clear hK K)) | ((with_reducible refine kQ ?_ ?_); kernel_rfl) | ((with_reducible refine k1 ?_ ?_); rfl) | ((with_reducible refine k0 ?_ ?_); rfl) | ((with_reducible apply kB) <;> first | rfl | intro h) | ((with_reducible refine kM ?_ ?_); rfl) | (with_reducible refine Wt.h (fun h => ?_) (fun h => ?_)) <;> try (exfalso; omega) | (with_reducible refine Wu.h (fun h => ?_) (fun h => ?_)) <;> try simp only [h] | ((fail_if_success with_reducible refine Wz.h ?_); simp (disch := omega) only [↓LD, LU, LS, LT, loadA_rf, seval, List.append_nil, ren, List.getElem?_nil]) | ((with_reducible refine And.intro ?_ ?_); omega) | ((fail_if_success with_reducible refine Wz.h ?_); simp only [D.int, D.bool]))
      exact end1 rfl rfl (by kernel_rfl) .f ⟨rfl, rfl⟩
    · exact absurd rfl hne
  · repeat' (first | (with_reducible first | refine Wa.h ?_ | refine Ws.h ?_ | refine Wb.h fun K hK => ?_ | (refine hK _ ?_; clear hK K)) | ((with_reducible refine kQ ?_ ?_); kernel_rfl) | ((with_reducible refine k1 ?_ ?_); rfl) | ((with_reducible refine k0 ?_ ?_); rfl) | ((with_reducible apply kB) <;> first | rfl | intro h) | ((with_reducible refine kM ?_ ?_); rfl) | (with_reducible refine Wt.h (fun h => ?_) (fun h => ?_)) <;> try (exfalso; omega) | (with_reducible refine Wu.h (fun h => ?_) (fun h => ?_)) <;> try simp only [h] | ((fail_if_success with_reducible refine Wz.h ?_); simp (disch := omega) only [↓LD, LU, LS, LT, loadA_rf, seval, dkR, dkB, dkP]) | ((with_reducible refine And.intro ?_ ?_); omega) | ((fail_if_success with_reducible refine Wz.h ?_); simp only [D.int, D.bool]))
    refine callW_emb (c_maps_Keys (p :: e2)) [2] (by kernel_rfl) rfl rfl ?_
    rintro _ _ ⟨rfl, rfl⟩
    repeat' (first | (with_reducible first | refine Wa.h ?_ | refine Ws.h ?_ | refine Wb.h fun K hK => ?_ | (refine hK _ ?_; clear hK K)) | ((with_reducible refine kQ ?_ ?_); kernel_rfl) | ((with_reducible refine k1 ?_ ?_); rfl) | ((with_reducible refine k0 ?_ ?_); rfl) | ((with_reducible apply kB) <;> first | rfl | intro h) | ((with_reducible refine kM ?_ ?_); rfl) | (with_reducible refine Wt.h (fun h => ?_) (fun h => ?_)) <;> try (exfalso; omega) | (with_reducible refine Wu.h (fun h => ?_) (fun h => ?_)) <;> try simp only [h] | ((fail_if_success with_reducible refine Wz.h ?_); simp (disch := omega) only [↓LD, LU, LS, LT, loadA_rf, seval, List.append_nil, ren, List.getElem?_nil]) | ((with_reducible refine And.intro ?_ ?_); omega) | ((fail_if_success with_reducible refine Wz.h ?_); simp only [D.int, D.bool]))
    refine callW_emb (c_Sorted (p :: e2) h) [2, 3] (by kernel_rfl) rfl rfl ?_
    rintro _ _ (⟨hne, rfl, rfl⟩ | ⟨_, rfl, rfl⟩)
    · cases hne
    · simp (disch := omega) only [↓LD, LU, LS, LT, loadA_rf, seval, ren, List.getElem?_nil, List.append_nil]
      repeat' (first | (with_reducible first | refine Wa.h ?_ | refine Ws.h ?_ | refine Wb.h fun K hK => ?_ | (refine hK _ ?_; clear hK K)) | ((with_reducible refine kQ ?_ ?_); kernel_rfl) | ((with_reducible refine k1 ?_ ?_); rfl) | ((with_reducible refine k0 ?_ ?_); rfl) | ((with_reducible apply kB) <;> first | rfl | intro h) | ((with_reducible refine kM ?_ ?_); rfl) | (with_reducible refine Wt.h (fun h => ?_) (fun h => ?_)) <;> try (exfalso; omega) | (with_reducible refine Wu.h (fun h => ?_) (fun h => ?_)) <;> try simp only [h] | ((fail_if_success with_reducible refine Wz.h ?_); simp (disch := omega) only [↓LD, LU, LS, LT, loadA_rf, seval, List.append_nil, ren, List.getElem?_nil]) | ((with_reducible refine And.intro ?_ ?_); omega) | ((fail_if_success with_reducible refine Wz.h ?_); simp only [D.int, D.bool]))
      exact endG rfl rfl (ef := ⟨.sl 3 0 (e2.length + 1), [(0, dkB 3 0 fuse false works), (1, .map (mF e1)), (2, .map (mF (p :: e2)))], [.data 3 ((sortL ((p :: e2).map (·.1))).map iF)]⟩) (by kernel_rfl) ⟨rfl, rfl⟩
  · repeat' (first | (with_reducible first | refine Wa.h ?_ | refine Ws.h ?_ | refine Wb.h fun K hK => ?_ | (refine hK _ ?_; clear hK K)) | ((with_reducible refine kQ ?_ ?_); kernel_rfl) | ((with_reducible refine k1 ?_ ?_); rfl) | ((with_reducible refine k0 ?_ ?_); rfl) | ((with_reducible apply kB) <;> first | rfl | intro h) | ((with_reducible refine kM ?_ ?_); rfl) | (with_reducible refine Wt.h (fun h => ?_) (fun h => ?_)) <;> try (exfalso; omega) | (with_reducible refine Wu.h (fun h => ?_) (fun h => ?_)) <;> try simp only [h] | ((fail_if_success with_reducible refine Wz.h ?_); simp (disch := omega) only [↓LD, LU, LS, LT, loadA_rf, seval, dkR, dkB, dkP]) | ((with_reducible refine And.intro ?_ ?_); omega) | ((fail_if_success with_reducible refine Wz.h ?_); simp only [D.int, D.bool]))
    refine callW_emb (c_maps_Keys []) [2] (by kernel_rfl) rfl rfl ?_
    rintro _ _ ⟨rfl, rfl⟩
    repeat' (first | (with_reducible first | refine Wa.h ?_ | refine Ws.h ?_ | refine Wb.h fun K hK => ?_ | (refine hK _ ?_; clear hK K)) | ((with_reducible refine kQ ?_ ?_); kernel_rfl) | ((with_reducible refine k1 ?_ ?_); rfl) | ((with_reducible refine k0 ?_ ?_); rfl) | ((with_reducible apply kB) <;> first | rfl | intro h) | ((with_reducible refine kM ?_ ?_); rfl) | (with_reducible refine Wt.h (fun h => ?_) (fun h => ?_)) <;> try (exfalso; omega) | (with_reducible refine Wu.h (fun h => ?_) (fun h => ?_)) <;> try simp only [h] | ((fail_if_success with_reducible refine Wz.h ?_); simp (disch := omega) only [↓LD, LU, LS, LT, loadA_rf, seval, List.append_nil, ren, List.getElem?_nil]) | ((with_reducible refine And.intro ?_ ?_); omega) | ((fail_if_success with_reducible refine Wz.h ?_); simp only [D.int, D.bool]))
    refine callW_emb (c_Sorted [] h) [2, 4] (by kernel_rfl) rfl rfl ?_
    rintro _ _ (⟨_, rfl, rfl⟩ | ⟨hne, rfl, rfl⟩)
    · repeat' (first | (with_reducible first | refine Wa.h ?_ | refine Ws.h ?_ | refine Wb.h fun K hK => ?_ | (refine hK _ ?_; clear hK K)) | ((with_reducible refine kQ ?_ ?_); kernel_rfl) | ((with_reducible refine k1 ?_ ?_); rfl) | ((with_reducible refine k0 ?_ ?_); rfl) | ((with_reducible apply kB) <;> first | rfl | intro h) | ((with_reducible refine kM ?_ ?_); rfl) | (with_reducible refine Wt.h (fun h => ?_) (fun h => ?_)) <;> try (exfalso; omega) | (with_reducible refine Wu.h (fun h => ?_) (fun h => ?_)) <;> try simp only [h] | ((fail_if_success with_reducible refine Wz.h ?_); simp (disch := omega) only [↓LD, LU, LS, LT, loadA_rf, seval, List.append_nil, ren, List.getElem?_nil]) | ((with_reducible refine And.intro ?_ ?_); omega) | ((fail_if_success with_reducible refine Wz.h ?_); simp only [D.int, D.bool]))
      exact end1 rfl rfl (by kernel_rfl) .f ⟨rfl, rfl⟩
    · exact absurd rfl hne
  · repeat' (first | (with_reducible first | refine Wa.h ?_ | refine Ws.h ?_ | refine Wb.h fun K hK => ?_ | (refine hK _ ?_; clear hK K)) | ((with_reducible refine kQ ?_ ?_); kernel_rfl) | ((with_reducible refine k1 ?_ ?_); rfl) | ((with_reducible refine k0 ?_ ?_); rfl) | ((with_reducible apply kB) <;> first | rfl | intro h) | ((with_reducible refine kM ?_ ?_); rfl) | (with_reducible refine Wt.h (fun h => ?_) (fun h => ?_)) <;> try (exfalso; omega) | (with_reducible refine Wu.h (fun h => ?_) (fun h => ?_)) <;> try simp only [h] | ((fail_if_success with_reducible refine Wz.h ?_); simp (disch := omega) only [↓LD, LU, LS, LT, loadA_rf, seval, dkR, dkB, dkP]) | ((with_reducible refine And.intro ?_ ?_); omega) | ((fail_if_success with_reducible refine Wz.h ?_); simp only [D.int, D.bool]))
    refine callW_emb (c_maps_Keys (p :: e2)) [2] (by kernel_rfl) rfl rfl ?_
    rintro _ _ ⟨rfl, rfl⟩
    repeat' (first | (with_reducible first | refine Wa.h ?_ | refine Ws.h ?_ | refine Wb.h fun K hK => ?_ | (refine hK _ ?_; clear hK K)) | ((with_reducible refine kQ ?_ ?_); kernel_rfl) | ((with_reducible refine k1 ?_ ?_); rfl) | ((with_reducible refine k0 ?_ ?_); rfl) | ((with_reducible apply kB) <;> first | rfl | intro h) | ((with_reducible refine kM ?_ ?_); rfl) | (with_reducible refine Wt.h (fun h => ?_) (fun h => ?_)) <;> try (exfalso; omega) | (with_reducible refine Wu.h (fun h => ?_) (fun h => ?_)) <;> try simp only [h] | ((fail_if_success with_reducible refine Wz.h ?_); simp (disch := omega) only [↓LD, LU, LS, LT, loadA_rf, seval, List.append_nil, ren, List.getElem?_nil]) | ((with_reducible refine And.intro ?_ ?_); omega) | ((fail_if_success with_reducible refine Wz.h ?_); simp only [D.int, D.bool]))
    refine callW_emb (c_Sorted (p :: e2) h) [2, 4] (by kernel_rfl) rfl rfl ?_
    rintro _ _ (⟨hne, rfl, rfl⟩ | ⟨_, rfl, rfl⟩)
    · cases hne
    · simp (disch := omega) only [↓LD, LU, LS, LT, loadA_rf, seval, ren, List.getElem?_nil, List.append_nil]
      repeat' (first | (with_reducible first | refine Wa.h ?_ | refine Ws.h ?_ | refine Wb.h fun K hK => ?_ | (refine hK _ ?_; clear hK K)) | ((with_reducible refine kQ ?_ ?_); kernel_rfl) | ((with_reducible refine k1 ?_ ?_); rfl) | ((with_reducible refine k0 ?_ ?_); rfl) | ((with_reducible apply kB) <;> first | rfl | intro h) | ((with_reducible refine kM ?_ ?_); rfl) | (with_reducible refine Wt.h (fun h => ?_) (fun h => ?_)) <;> try (exfalso; omega) | (with_reducible refine Wu.h (fun h => ?_) (fun h => ?_)) <;> try simp only [h] | ((fail_if_success with_reducible refine Wz.h ?_); simp (disch := omega) only [↓LD, LU, LS, LT, loadA_rf, seval, List.append_nil, ren, List.getElem?_nil]) | ((with_reducible refine And.intro ?_ ?_); omega) | ((fail_if_success with_reducible refine Wz.h ?_); simp only [D.int, D.bool]))
      exact endG rfl rfl (ef := ⟨.sl 4 0 (e2.length + 1), [(0, dkB 3 (n + 1) fuse false works), (1, .map (mF e1)), (2, .map (mF (p :: e2))), (3, .data 79 (ws.flatMap Wk.cs))], [.data 3 ((sortL ((p :: e2).map (·.1))).map iF)]⟩) (by kernel_rfl) ⟨rfl, rfl⟩
/-- .. over the list that is told. -/
def dkFS (e1 e2 : Fs) (n : Nat) (ws : List Wk) (fuse : Int) (dead : Bool) (works : Int) (S : List Int) : D × List Row := match n, S with
  | n, [] => (.f (.v (.slice none 0 0)), dkR e1 e2 n ws fuse dead works)
  | 0, x :: S => (.sl 3 0 (S.length + 1), dkR e1 e2 0 ws fuse dead works ++ [.data 3 ((x :: S).map iF)])
  | m + 1, x :: S => (.sl 4 0 (S.length + 1), dkR e1 e2 (m + 1) ws fuse dead works ++ [.data 3 ((x :: S).map iF)])
theorem c_disk_FilesS (e1 e2 : Fs) (n : Nat) (ws : List Wk) (fuse : Int) (works : Int) (S : List Int) (h : KeysIn e2) (hS : sortL (e2.map (·.1)) = S) :
    Con Try.prog 19 [.pt 0 0] (dkR e1 e2 n ws fuse false works) fun r H' => r = (dkFS e1 e2 n ws fuse false works S).1 ∧ H' = (dkFS e1 e2 n ws fuse false works S).2 := by
  refine (c_disk_Files e1 e2 n ws fuse works h).mono ?_
  have hl := sortL_len (e2.map (·.1))
  rw [hS, List.length_map] at hl
  rcases e2 with _ | ⟨p, e2⟩
  · obtain rfl : S = [] := List.eq_nil_of_length_eq_zero hl
    rintro r H' ⟨rfl, rfl⟩
    cases n <;> exact ⟨rfl, rfl⟩
  · rcases S with _ | ⟨x, S⟩
    · simp at hl
    · simp only [List.length_cons] at hl
      rintro r H' ⟨rfl, rfl⟩
      rcases n with _ | n
      · refine ⟨?_, ?_⟩
        · show D.sl 3 0 (e2.length + 1) = .sl 3 0 (S.length + 1)
          rw [hl]
        · show dkR e1 (p :: e2) 0 ws fuse false works ++ [.data 3 ((sortL ((p :: e2).map (·.1))).map iF)] = _
          rw [hS]; rfl
      · refine ⟨?_, ?_⟩
        · show D.sl 4 0 (e2.length + 1) = .sl 4 0 (S.length + 1)
          rw [hl]
        · show dkR e1 (p :: e2) (n + 1) ws fuse false works ++ [.data 3 ((sortL ((p :: e2).map (·.1))).map iF)] = _
          rw [hS]; rfl
end Go.Proofs.Ytjbkckhpoicaeaa.Mir

/- The program's disk: a Crash of any kind. -/
namespace Go.Proofs.Ytjbkckhpoicaeaa.Mir
open Go Go.RowKit
set_option linter.unusedVariables false
set_option linter.unusedSimpArgs false
set_option maxHeartbeats 2000000

def restN (x m : Int) : Int := (x.tmod m + m).tmod m
theorem restN_in {x m : Int} (hm : 0 < m) : 0 ≤ restN x m ∧ restN x m < m := by
  have h1 := tmod_gt' (x := x) hm
  unfold restN
  exact ⟨Int.tmod_nonneg _ (by omega), Int.tmod_lt_of_pos _ hm⟩
theorem restN_id {x m : Int} (h0 : 0 ≤ x) (h : x < m) : restN x m = x := by
  unfold restN
  rw [Int.tmod_eq_of_lt h0 h, Int.tmod_eq_emod_of_nonneg (by omega), Int.add_emod_right, Int.emod_eq_of_lt h0 h]
theorem c_disk_restG (x m : Int) (hm : 0 < m ∧ m ≤ 281474976710656) : Con Try.prog 56 [D.int x, D.int m] [] fun r H' => r = D.int (restN x m) ∧ H' = [] := by
  have h1 := tmod_lt' (x := x) hm.1
  have h2 := tmod_gt' (x := x) hm.1
  refine Con.walk good fn_disk_rest (by simp) ?_
  unfold s_disk_rest
  simp only [argsE, List.length_cons, List.length_nil, Nat.reduceAdd]
  repeat' (first | (with_reducible first | refine Wa.h ?_ | refine Ws.h ?_ | refine Wb.h fun K hK => ?_ | (refine hK _ ?_; clear hK K)) | ((with_reducible refine kQ ?_ ?_); kernel_rfl) | ((with_reducible refine k1 ?_ ?_); rfl) | ((with_reducible refine k0 ?_ ?_); rfl) | ((with_reducible apply kB) <;> first | rfl | intro h) | ((with_reducible refine kM ?_ ?_); rfl) | (with_reducible refine Wt.h (fun h => ?_) (fun h => ?_)) <;> try (exfalso; omega) | (with_reducible refine Wu.h (fun h => ?_) (fun h => ?_)) <;> try simp only [h] | ((fail_if_success with_reducible refine Wz.h ?_); simp (disch := omega) only [↓LD, LU, LS, LT, loadA_rf, seval]) | ((with_reducible refine And.intro ?_ ?_); omega) | ((fail_if_success with_reducible refine Wz.h ?_); simp only [D.int, D.bool]))
  exact end1 rfl rfl (by kernel_rfl) .f ⟨rfl, rfl⟩
/-- One work of a crash. -/
def stepC (k cut : Int) (e : Fs) (i : Nat) (w : Wk) : Fs :=
  if (i : Int) < k then fDo e w.k w.b
  else if (i : Int) = k ∧ w.b ≠ [] ∧ w.b.take (restN cut (w.b.length + 1 : Nat)).toNat ≠ [] then fDo e w.k (w.b.take (restN cut (w.b.length + 1 : Nat)).toNat)
  else e
/-- The files behind so many works of a crash. -/
def crF (e : Fs) (ws : List Wk) (k cut : Int) : Nat → Fs
  | 0 => e
  | i + 1 => stepC k cut (crF e ws k cut i) i (gt ws i)
theorem take_uF {b : List UInt8} {k : Nat} : (b.map uF).take k = (b.take k).map uF := List.map_take.symm
set_option maxRecDepth 100000 in
theorem c_disk_Crash (e1 e2 : Fs) (n : Nat) (ws : List Wk) (fuse : Int) (dead : Bool) (works done cut : Int) (B : Nat) (hn : ws.length = n) (hn2 : n ≤ 1000000) (hws : ∀ w ∈ ws, w.b.length ≤ 140737488355328)
    (hok : ∀ i, i < n → FsOk (crF e1 ws (restN done (n + 1 : Nat)) cut i) B ∧ ((fGet (crF e1 ws (restN done (n + 1 : Nat)) cut i) (gt ws i).k).getD []).length + (gt ws i).b.length ≤ 140737488355328) :
    Con Try.prog 24 [.pt 0 0, D.int done, D.int cut] (dkR e1 e2 n ws fuse dead works) fun r H' => r = .tp [] ∧ H' = dkC (crF e1 ws (restN done (n + 1 : Nat)) cut n) e2 n ws works := by
  refine Con.walk good fn_disk_Crash (by simp) ?_
  unfold s_disk_Crash
  simp only [argsE, List.length_cons, List.length_nil, Nat.reduceAdd]
  rcases n with _ | n
  · repeat' (first | (with_reducible first | refine Wa.h ?_ | refine Ws.h ?_ | refine Wb.h fun K hK => ?_ | (refine hK _ ?_; clear hK K)) | ((with_reducible refine kQ ?_ ?_); kernel_rfl) | ((with_reducible refine k1 ?_ ?_); rfl) | ((with_reducible refine k0 ?_ ?_); rfl) | ((with_reducible apply kB) <;> first | rfl | intro h) | ((with_reducible refine kM ?_ ?_); rfl) | (with_reducible refine Wt.h (fun h => ?_) (fun h => ?_)) <;> try (exfalso; omega) | (with_reducible refine Wu.h (fun h => ?_) (fun h => ?_)) <;> try simp only [h] | ((fail_if_success with_reducible refine Wz.h ?_); simp (disch := omega) only [↓LD, LU, LS, LT, loadA_rf, seval, dkR, dkB, dkP]) | ((with_reducible refine And.intro ?_ ?_); omega) | ((fail_if_success with_reducible refine Wz.h ?_); simp only [D.int, D.bool]))
    refine callW_peek (c_disk_restG _ _ (by omega)) (.cons .f (.cons .f .nil)) ?_ ?_
    · rintro _ _ ⟨rfl, rfl⟩
      exact ⟨.f .v, by simp⟩
    rintro _ _ ⟨rfl, rfl⟩
    repeat' (first | (with_reducible first | refine Wa.h ?_ | refine Ws.h ?_ | refine Wb.h fun K hK => ?_ | (refine hK _ ?_; clear hK K)) | ((with_reducible refine kQ ?_ ?_); kernel_rfl) | ((with_reducible refine k1 ?_ ?_); rfl) | ((with_reducible refine k0 ?_ ?_); rfl) | ((with_reducible apply kB) <;> first | rfl | intro h) | ((with_reducible refine kM ?_ ?_); rfl) | (with_reducible refine Wt.h (fun h => ?_) (fun h => ?_)) <;> try (exfalso; omega) | (with_reducible refine Wu.h (fun h => ?_) (fun h => ?_)) <;> try simp only [h] | ((fail_if_success with_reducible refine Wz.h ?_); simp (disch := omega) only [↓LD, LU, LS, LT, loadA_rf, seval, List.append_nil, List.map_nil]) | ((with_reducible refine And.intro ?_ ?_); omega) | ((fail_if_success with_reducible refine Wz.h ?_); simp only [D.int, D.bool]))
    refine HS.loopG [0, 2, 6, 21, 22, 23] (fun _ : Unit => ⟨frm 87 [(0, .pt 0 0), (2, D.int cut), (6, D.int (restN done 1)), (21, .f (.v (.slice none 0 0))), (22, D.int 0), (23, D.int 0)], dkR e1 e2 0 ws fuse dead works, []⟩)
      (fun _ => True) (fun _ => 0) () (by kernel_rfl) trivial ?_
    rintro _ _
    repeat' (first | (with_reducible first | refine Wa.h ?_ | refine Ws.h ?_ | refine Wb.h fun K hK => ?_ | (refine hK _ ?_; clear hK K)) | ((with_reducible refine kQ ?_ ?_); kernel_rfl) | ((with_reducible refine k1 ?_ ?_); rfl) | ((with_reducible refine k0 ?_ ?_); rfl) | ((with_reducible apply kB) <;> first | rfl | intro h) | ((with_reducible refine kM ?_ ?_); rfl) | (with_reducible refine Wt.h (fun h => ?_) (fun h => ?_)) <;> try (exfalso; omega) | (with_reducible refine Wu.h (fun h => ?_) (fun h => ?_)) <;> try simp only [h] | ((fail_if_success with_reducible refine Wz.h ?_); simp (disch := omega) only [↓LD, LU, LS, LT, loadA_rf, seval, dkR, dkB, dkP]) | ((with_reducible refine And.intro ?_ ?_); omega) | ((fail_if_success with_reducible refine Wz.h ?_); simp only [D.int, D.bool]))
    refine callW_emb (c_mapClone e1) [1] (by kernel_rfl) rfl rfl ?_
    rintro _ _ ⟨rfl, rfl⟩
    repeat' (first | (with_reducible first | refine Wa.h ?_ | refine Ws.h ?_ | refine Wb.h fun K hK => ?_ | (refine hK _ ?_; clear hK K)) | ((with_reducible refine kQ ?_ ?_); kernel_rfl) | ((with_reducible refine k1 ?_ ?_); rfl) | ((with_reducible refine k0 ?_ ?_); rfl) | ((with_reducible apply kB) <;> first | rfl | intro h) | ((with_reducible refine kM ?_ ?_); rfl) | (with_reducible refine Wt.h (fun h => ?_) (fun h => ?_)) <;> try (exfalso; omega) | (with_reducible refine Wu.h (fun h => ?_) (fun h => ?_)) <;> try simp only [h] | ((fail_if_success with_reducible refine Wz.h ?_); simp (disch := omega) only [↓LD, LU, LS, LT, loadA_rf, seval]) | ((with_reducible refine And.intro ?_ ?_); omega) | ((fail_if_success with_reducible refine Wz.h ?_); simp only [D.int, D.bool]))
    exact end0 ⟨rfl, rfl⟩
  · repeat' (first | (with_reducible first | refine Wa.h ?_ | refine Ws.h ?_ | refine Wb.h fun K hK => ?_ | (refine hK _ ?_; clear hK K)) | ((with_reducible refine kQ ?_ ?_); kernel_rfl) | ((with_reducible refine k1 ?_ ?_); rfl) | ((with_reducible refine k0 ?_ ?_); rfl) | ((with_reducible apply kB) <;> first | rfl | intro h) | ((with_reducible refine kM ?_ ?_); rfl) | (with_reducible refine Wt.h (fun h => ?_) (fun h => ?_)) <;> try (exfalso; omega) | (with_reducible refine Wu.h (fun h => ?_) (fun h => ?_)) <;> try simp only [h] | ((fail_if_success with_reducible refine Wz.h ?_); simp (disch := omega) only [↓LD, LU, LS, LT, loadA_rf, seval, dkR, dkB, dkP]) | ((with_reducible refine And.intro ?_ ?_); omega) | ((fail_if_success with_reducible refine Wz.h ?_); simp only [D.int, D.bool]))
    refine callW_peek (c_disk_restG _ _ (by omega)) (.cons .f (.cons .f .nil)) ?_ ?_
    · rintro _ _ ⟨rfl, rfl⟩
      exact ⟨.f .v, by simp⟩
    rintro _ _ ⟨rfl, rfl⟩
    have hk := restN_in (x := done) (m := (n + 1 + 1 : Nat)) (by omega)
    obtain ⟨k, hkd⟩ : ∃ k, restN done (n + 1 + 1 : Nat) = k := ⟨_, rfl⟩
    rw [hkd] at hok hk
    have hkd' : restN done ((n + 1 : Nat) + 1) = k := hkd
    rw [hkd']
    repeat' (first | (with_reducible first | refine Wa.h ?_ | refine Ws.h ?_ | refine Wb.h fun K hK => ?_ | (refine hK _ ?_; clear hK K)) | ((with_reducible refine kQ ?_ ?_); kernel_rfl) | ((with_reducible refine k1 ?_ ?_); rfl) | ((with_reducible refine k0 ?_ ?_); rfl) | ((with_reducible apply kB) <;> first | rfl | intro h) | ((with_reducible refine kM ?_ ?_); rfl) | (with_reducible refine Wt.h (fun h => ?_) (fun h => ?_)) <;> try (exfalso; omega) | (with_reducible refine Wu.h (fun h => ?_) (fun h => ?_)) <;> try simp only [h] | ((fail_if_success with_reducible refine Wz.h ?_); simp (disch := omega) only [↓LD, LU, LS, LT, loadA_rf, seval, List.append_nil, List.map_nil]) | ((with_reducible refine And.intro ?_ ?_); omega) | ((fail_if_success with_reducible refine Wz.h ?_); simp only [D.int, D.bool]))
    refine HS.loopG [0, 2, 6, 21, 22, 23] (fun i : Nat => ⟨frm 87 [(0, .pt 0 0), (2, D.int cut), (6, D.int k), (21, .sl 3 0 (n + 1)), (22, D.int (n + 1 : Nat)), (23, D.int i)], dkR (crF e1 ws k cut i) e2 (n + 1) ws fuse dead works, []⟩)
      (fun i => i ≤ n + 1) (fun i => n + 1 - i) 0 (by kernel_rfl) (Nat.zero_le _) ?_
    rintro i hi
    have hfl : (ws.flatMap Wk.cs).length = (n + 1) * 2 := by rw [flat_len' Wk.cs_len, hn]
    have hwi : i < ws.length → (gt ws i).b.length ≤ 140737488355328 := fun h => hws _ (by rw [gt_eq h]; exact List.getElem_mem h)
    repeat' (first | (with_reducible first | refine Wa.h ?_ | refine Ws.h ?_ | refine Wb.h fun K hK => ?_ | (refine hK _ ?_; clear hK K)) | ((with_reducible refine kQ ?_ ?_); kernel_rfl) | ((with_reducible refine k1 ?_ ?_); rfl) | ((with_reducible refine k0 ?_ ?_); rfl) | ((with_reducible apply kB) <;> first | rfl | intro h) | ((with_reducible refine kM ?_ ?_); rfl) | (with_reducible refine Wt.h (fun h => ?_) (fun h => ?_)) <;> try (exfalso; omega) | (with_reducible refine Wu.h (fun h => ?_) (fun h => ?_)) <;> try simp only [h] | ((fail_if_success with_reducible refine Wz.h ?_); simp (disch := omega) only [↓LD, LU, LS, LT, loadA_rf, seval, dkR, dkB, dkP, hfl, wk_take, fY]) | ((with_reducible refine And.intro ?_ ?_); omega) | ((fail_if_success with_reducible refine Wz.h ?_); simp only [D.int, D.bool]))
    · have hi' : i < n + 1 := by omega
      obtain ⟨hB, hr⟩ := hok i hi'
      have hs : crF e1 ws k cut (i + 1) = fDo (crF e1 ws k cut i) (gt ws i).k (gt ws i).b := by
        rw [crF, stepC, if_pos h]
      refine callDr_emb (c_disk_doG (crF e1 ws k cut i) B hB (gt ws i).k (gt ws i).b hr) [1] (by kernel_rfl) rfl rfl ?_
      repeat' (first | (with_reducible first | refine Wa.h ?_ | refine Ws.h ?_ | refine Wb.h fun K hK => ?_ | (refine hK _ ?_; clear hK K)) | ((with_reducible refine kQ ?_ ?_); kernel_rfl) | ((with_reducible refine k1 ?_ ?_); rfl) | ((with_reducible refine k0 ?_ ?_); rfl) | ((with_reducible apply kB) <;> first | rfl | intro h) | ((with_reducible refine kM ?_ ?_); rfl) | (with_reducible refine Wt.h (fun h => ?_) (fun h => ?_)) <;> try (exfalso; omega) | (with_reducible refine Wu.h (fun h => ?_) (fun h => ?_)) <;> try simp only [h] | ((fail_if_success with_reducible refine Wz.h ?_); simp (disch := omega) only [↓LD, LU, LS, LT, loadA_rf, seval]) | ((with_reducible refine And.intro ?_ ?_); omega) | ((fail_if_success with_reducible refine Wz.h ?_); simp only [D.int, D.bool]))
      exact Next.mk (i + 1) (by simp only [hs]; kernel_rfl) (by omega) (by omega)
    · have hi' : i < n + 1 := by omega
      obtain ⟨hB, hr⟩ := hok i hi'
      have hwi' := hwi (by omega)
      have hq := restN_in (x := cut) (m := ((gt ws i).b.length + 1 : Nat)) (by omega)
      have hq' : restN cut (((gt ws i).b.length : Int) + 1) = restN cut ((gt ws i).b.length + 1 : Nat) := rfl
      obtain ⟨q, hqd⟩ : ∃ q, restN cut ((gt ws i).b.length + 1 : Nat) = q := ⟨_, rfl⟩
      rw [hqd] at hq hq'
      refine callDr_peek (c_disk_restG cut _ (by omega)) (.cons .f (.cons .f .nil)) ⟨.f .v, by simp⟩ ?_
      rw [hq']
      obtain ⟨p, hp⟩ : ∃ p, (gt ws i).b.take q.toNat = p := ⟨_, rfl⟩
      have hq2 : q.toNat = p.length := by rw [← hp, List.length_take]; omega
      have hp2 : (gt ws i).b.take p.length = p := by rw [← hq2]; exact hp
      have hpl : p.length ≤ (gt ws i).b.length := by rw [← hp, List.length_take]; omega
      have hs0 : crF e1 ws k cut (i + 1) = if p ≠ [] then fDo (crF e1 ws k cut i) (gt ws i).k p else crF e1 ws k cut i := by
        have hb : (gt ws i).b ≠ [] := by
          intro e
          rw [e] at h
          simp at h
        rw [crF, stepC, if_neg (by omega), hqd, hp]
        by_cases hpn : p = []
        · rw [if_neg (fun h => h.2.2 hpn), if_neg (fun h => h hpn)]
        · rw [if_pos ⟨by omega, hb, hpn⟩, if_pos hpn]
      repeat' (first | (with_reducible first | refine Wa.h ?_ | refine Ws.h ?_ | refine Wb.h fun K hK => ?_ | (refine hK _ ?_; clear hK K)) | ((with_reducible refine kQ ?_ ?_); kernel_rfl) | ((with_reducible refine k1 ?_ ?_); rfl) | ((with_reducible refine k0 ?_ ?_); rfl) | ((with_reducible apply kB) <;> first | rfl | intro h) | ((with_reducible refine kM ?_ ?_); rfl) | (with_reducible refine Wt.h (fun h => ?_) (fun h => ?_)) <;> try (exfalso; omega) | (with_reducible refine Wu.h (fun h => ?_) (fun h => ?_)) <;> try simp only [h] | ((fail_if_success with_reducible refine Wz.h ?_); simp (disch := omega) only [↓LD, LU, LS, LT, loadA_rf, seval, List.append_nil, List.map_nil, D.int, Nat.sub_zero, take_uF, hq2, hp2]) | ((with_reducible refine And.intro ?_ ?_); omega) | ((fail_if_success with_reducible refine Wz.h ?_); simp only [D.int, D.bool]))
      · have hs : crF e1 ws k cut (i + 1) = fDo (crF e1 ws k cut i) (gt ws i).k p := by
          rw [hs0, if_pos]
          rintro rfl
          simp at h
        refine callDr_emb (c_disk_doG (crF e1 ws k cut i) B hB (gt ws i).k p (by omega)) [1] (by kernel_rfl) rfl rfl ?_
        repeat' (first | (with_reducible first | refine Wa.h ?_ | refine Ws.h ?_ | refine Wb.h fun K hK => ?_ | (refine hK _ ?_; clear hK K)) | ((with_reducible refine kQ ?_ ?_); kernel_rfl) | ((with_reducible refine k1 ?_ ?_); rfl) | ((with_reducible refine k0 ?_ ?_); rfl) | ((with_reducible apply kB) <;> first | rfl | intro h) | ((with_reducible refine kM ?_ ?_); rfl) | (with_reducible refine Wt.h (fun h => ?_) (fun h => ?_)) <;> try (exfalso; omega) | (with_reducible refine Wu.h (fun h => ?_) (fun h => ?_)) <;> try simp only [h] | ((fail_if_success with_reducible refine Wz.h ?_); simp (disch := omega) only [↓LD, LU, LS, LT, loadA_rf, seval]) | ((with_reducible refine And.intro ?_ ?_); omega) | ((fail_if_success with_reducible refine Wz.h ?_); simp only [D.int, D.bool]))
        exact Next.mk (i + 1) (by simp only [hs]; kernel_rfl) (by omega) (by omega)
      · have hs : crF e1 ws k cut (i + 1) = crF e1 ws k cut i := by
          rw [hs0, if_neg]
          intro h'
          exact h' (List.eq_nil_of_length_eq_zero (by omega))
        exact Next.mk (i + 1) (by simp only [hs]; kernel_rfl) (by omega) (by omega)
    · have hs : crF e1 ws k cut (i + 1) = crF e1 ws k cut i := by
        rw [crF, stepC, if_neg (by omega), if_neg]
        rintro ⟨_, h1, _⟩
        exact h1 (List.eq_nil_of_length_eq_zero (by omega))
      exact Next.mk (i + 1) (by simp only [hs]; kernel_rfl) (by omega) (by omega)
    · have hs : crF e1 ws k cut (i + 1) = crF e1 ws k cut i := by
        rw [crF, stepC, if_neg (by omega), if_neg (by omega)]
      exact Next.mk (i + 1) (by simp only [hs]; kernel_rfl) (by omega) (by omega)
    · have hin : i = n + 1 := by omega
      subst hin
      refine callW_emb (c_mapClone (crF e1 ws k cut (n + 1))) [1] (by kernel_rfl) rfl rfl ?_
      rintro _ _ ⟨rfl, rfl⟩
      repeat' (first | (with_reducible first | refine Wa.h ?_ | refine Ws.h ?_ | refine Wb.h fun K hK => ?_ | (refine hK _ ?_; clear hK K)) | ((with_reducible refine kQ ?_ ?_); kernel_rfl) | ((with_reducible refine k1 ?_ ?_); rfl) | ((with_reducible refine k0 ?_ ?_); rfl) | ((with_reducible apply kB) <;> first | rfl | intro h) | ((with_reducible refine kM ?_ ?_); rfl) | (with_reducible refine Wt.h (fun h => ?_) (fun h => ?_)) <;> try (exfalso; omega) | (with_reducible refine Wu.h (fun h => ?_) (fun h => ?_)) <;> try simp only [h] | ((fail_if_success with_reducible refine Wz.h ?_); simp (disch := omega) only [↓LD, LU, LS, LT, loadA_rf, seval]) | ((with_reducible refine And.intro ?_ ?_); omega) | ((fail_if_success with_reducible refine Wz.h ?_); simp only [D.int, D.bool]))
      exact end0 ⟨rfl, by rw [← hkd]; rfl⟩
end Go.Proofs.Ytjbkckhpoicaeaa.Mir

/- The program's disk: Read; what files hold. -/
namespace Go.Proofs.Ytjbkckhpoicaeaa.Mir
open Go Go.RowKit
set_option linter.unusedVariables false
set_option linter.unusedSimpArgs false
set_option maxHeartbeats 2000000

set_option maxRecDepth 100000 in
theorem c_disk_Read (e1 e2 : Fs) (n : Nat) (ws : List Wk) (fuse : Int) (dead : Bool) (works : Int) (B : Nat) (he : FsOk e2 B) (hB : B ≤ 140737488355328) (k : Int) :
    Con Try.prog 20 [.pt 0 0, D.int k] (dkR e1 e2 n ws fuse dead works) fun r H' => r = (if dead = true then .f (.v (.slice none 0 0)) else orN (fGet e2 k)) ∧ H' = dkR e1 e2 n ws fuse dead works := by
  refine Con.walk good fn_disk_Read (by simp) ?_
  unfold s_disk_Read
  simp only [argsE, List.length_cons, List.length_nil, Nat.reduceAdd]
  rcases n with _ | n
  · cases dead
    · cases hg : fGet e2 k with
      | none =>
        repeat' (first | (with_reducible first | refine Wa.h ?_ | refine Ws.h ?_ | refine Wb.h fun K hK => ?_ | (refine hK _ ?_; clear hK K)) | ((with_reducible refine kQ ?_ ?_); kernel_rfl) | ((with_reducible refine k1 ?_ ?_); rfl) | ((with_reducible refine k0 ?_ ?_); rfl) | ((with_reducible apply kB) <;> first | rfl | intro h) | ((with_reducible refine kM ?_ ?_); rfl) | (with_reducible refine Wt.h (fun h => ?_) (fun h => ?_)) <;> try (exfalso; omega) | (with_reducible refine Wu.h (fun h => ?_) (fun h => ?_)) <;> try simp only [h] | ((fail_if_success with_reducible refine Wz.h ?_); simp (disch := omega) only [↓LD, LU, LS, LT, loadA_rf, seval, dkR, dkB, dkP]) | ((with_reducible refine And.intro ?_ ?_); omega) | ((fail_if_success with_reducible refine Wz.h ?_); simp only [D.int, D.bool]))
        refine bind'_of (look_mF rfl) ?_
        rw [hg]
        repeat' (first | (with_reducible first | refine Wa.h ?_ | refine Ws.h ?_ | refine Wb.h fun K hK => ?_ | (refine hK _ ?_; clear hK K)) | ((with_reducible refine kQ ?_ ?_); kernel_rfl) | ((with_reducible refine k1 ?_ ?_); rfl) | ((with_reducible refine k0 ?_ ?_); rfl) | ((with_reducible apply kB) <;> first | rfl | intro h) | ((with_reducible refine kM ?_ ?_); rfl) | (with_reducible refine Wt.h (fun h => ?_) (fun h => ?_)) <;> try (exfalso; omega) | (with_reducible refine Wu.h (fun h => ?_) (fun h => ?_)) <;> try simp only [h] | ((fail_if_success with_reducible refine Wz.h ?_); simp (disch := omega) only [↓LD, LU, LS, LT, loadA_rf, seval, orN]) | ((with_reducible refine And.intro ?_ ?_); omega) | ((fail_if_success with_reducible refine Wz.h ?_); simp only [D.int, D.bool]))
        refine callW_emb c_byte_Clone0 [] (by kernel_rfl) rfl rfl ?_
        rintro _ _ ⟨rfl, rfl⟩
        repeat' (first | (with_reducible first | refine Wa.h ?_ | refine Ws.h ?_ | refine Wb.h fun K hK => ?_ | (refine hK _ ?_; clear hK K)) | ((with_reducible refine kQ ?_ ?_); kernel_rfl) | ((with_reducible refine k1 ?_ ?_); rfl) | ((with_reducible refine k0 ?_ ?_); rfl) | ((with_reducible apply kB) <;> first | rfl | intro h) | ((with_reducible refine kM ?_ ?_); rfl) | (with_reducible refine Wt.h (fun h => ?_) (fun h => ?_)) <;> try (exfalso; omega) | (with_reducible refine Wu.h (fun h => ?_) (fun h => ?_)) <;> try simp only [h] | ((fail_if_success with_reducible refine Wz.h ?_); simp (disch := omega) only [↓LD, LU, LS, LT, loadA_rf, seval, List.append_nil]) | ((with_reducible refine And.intro ?_ ?_); omega) | ((fail_if_success with_reducible refine Wz.h ?_); simp only [D.int, D.bool]))
        exact endA rfl rfl ⟨rfl, rfl⟩
      | some y =>
        obtain ⟨h1, h2⟩ := he.get hg
        obtain ⟨q, hq⟩ : ∃ q, y.length = q + 1 := by
          cases y with
          | nil => exact absurd rfl h1
          | cons z y => exact ⟨y.length, rfl⟩
        repeat' (first | (with_reducible first | refine Wa.h ?_ | refine Ws.h ?_ | refine Wb.h fun K hK => ?_ | (refine hK _ ?_; clear hK K)) | ((with_reducible refine kQ ?_ ?_); kernel_rfl) | ((with_reducible refine k1 ?_ ?_); rfl) | ((with_reducible refine k0 ?_ ?_); rfl) | ((with_reducible apply kB) <;> first | rfl | intro h) | ((with_reducible refine kM ?_ ?_); rfl) | (with_reducible refine Wt.h (fun h => ?_) (fun h => ?_)) <;> try (exfalso; omega) | (with_reducible refine Wu.h (fun h => ?_) (fun h => ?_)) <;> try simp only [h] | ((fail_if_success with_reducible refine Wz.h ?_); simp (disch := omega) only [↓LD, LU, LS, LT, loadA_rf, seval, dkR, dkB, dkP]) | ((with_reducible refine And.intro ?_ ?_); omega) | ((fail_if_success with_reducible refine Wz.h ?_); simp only [D.int, D.bool]))
        refine bind'_of (look_mF rfl) ?_
        rw [hg]
        repeat' (first | (with_reducible first | refine Wa.h ?_ | refine Ws.h ?_ | refine Wb.h fun K hK => ?_ | (refine hK _ ?_; clear hK K)) | ((with_reducible refine kQ ?_ ?_); kernel_rfl) | ((with_reducible refine k1 ?_ ?_); rfl) | ((with_reducible refine k0 ?_ ?_); rfl) | ((with_reducible apply kB) <;> first | rfl | intro h) | ((with_reducible refine kM ?_ ?_); rfl) | (with_reducible refine Wt.h (fun h => ?_) (fun h => ?_)) <;> try (exfalso; omega) | (with_reducible refine Wu.h (fun h => ?_) (fun h => ?_)) <;> try simp only [h] | ((fail_if_success with_reducible refine Wz.h ?_); simp (disch := omega) only [↓LD, LU, LS, LT, loadA_rf, seval, orN]) | ((with_reducible refine And.intro ?_ ?_); omega) | ((fail_if_success with_reducible refine Wz.h ?_); simp only [D.int, D.bool]))
        refine callW_emb (c_byte_CloneF y q hq (by omega)) [] (by kernel_rfl) rfl rfl ?_
        rintro _ _ ⟨rfl, rfl⟩
        repeat' (first | (with_reducible first | refine Wa.h ?_ | refine Ws.h ?_ | refine Wb.h fun K hK => ?_ | (refine hK _ ?_; clear hK K)) | ((with_reducible refine kQ ?_ ?_); kernel_rfl) | ((with_reducible refine k1 ?_ ?_); rfl) | ((with_reducible refine k0 ?_ ?_); rfl) | ((with_reducible apply kB) <;> first | rfl | intro h) | ((with_reducible refine kM ?_ ?_); rfl) | (with_reducible refine Wt.h (fun h => ?_) (fun h => ?_)) <;> try (exfalso; omega) | (with_reducible refine Wu.h (fun h => ?_) (fun h => ?_)) <;> try simp only [h] | ((fail_if_success with_reducible refine Wz.h ?_); simp (disch := omega) only [↓LD, LU, LS, LT, loadA_rf, seval, List.append_nil]) | ((with_reducible refine And.intro ?_ ?_); omega) | ((fail_if_success with_reducible refine Wz.h ?_); simp only [D.int, D.bool]))
        exact endA rfl rfl ⟨rfl, rfl⟩
    · repeat' (first | (with_reducible first | refine Wa.h ?_ | refine Ws.h ?_ | refine Wb.h fun K hK => ?_ | (refine hK _ ?_; clear hK K)) | ((with_reducible refine kQ ?_ ?_); kernel_rfl) | ((with_reducible refine k1 ?_ ?_); rfl) | ((with_reducible refine k0 ?_ ?_); rfl) | ((with_reducible apply kB) <;> first | rfl | intro h) | ((with_reducible refine kM ?_ ?_); rfl) | (with_reducible refine Wt.h (fun h => ?_) (fun h => ?_)) <;> try (exfalso; omega) | (with_reducible refine Wu.h (fun h => ?_) (fun h => ?_)) <;> try simp only [h] | ((fail_if_success with_reducible refine Wz.h ?_); simp (disch := omega) only [↓LD, LU, LS, LT, loadA_rf, seval, dkR, dkB, dkP]) | ((with_reducible refine And.intro ?_ ?_); omega) | ((fail_if_success with_reducible refine Wz.h ?_); simp only [D.int, D.bool]))
      exact endA rfl rfl ⟨rfl, rfl⟩
  · cases dead
    · cases hg : fGet e2 k with
      | none =>
        repeat' (first | (with_reducible first | refine Wa.h ?_ | refine Ws.h ?_ | refine Wb.h fun K hK => ?_ | (refine hK _ ?_; clear hK K)) | ((with_reducible refine kQ ?_ ?_); kernel_rfl) | ((with_reducible refine k1 ?_ ?_); rfl) | ((with_reducible refine k0 ?_ ?_); rfl) | ((with_reducible apply kB) <;> first | rfl | intro h) | ((with_reducible refine kM ?_ ?_); rfl) | (with_reducible refine Wt.h (fun h => ?_) (fun h => ?_)) <;> try (exfalso; omega) | (with_reducible refine Wu.h (fun h => ?_) (fun h => ?_)) <;> try simp only [h] | ((fail_if_success with_reducible refine Wz.h ?_); simp (disch := omega) only [↓LD, LU, LS, LT, loadA_rf, seval, dkR, dkB, dkP]) | ((with_reducible refine And.intro ?_ ?_); omega) | ((fail_if_success with_reducible refine Wz.h ?_); simp only [D.int, D.bool]))
        refine bind'_of (look_mF rfl) ?_
        rw [hg]
        repeat' (first | (with_reducible first | refine Wa.h ?_ | refine Ws.h ?_ | refine Wb.h fun K hK => ?_ | (refine hK _ ?_; clear hK K)) | ((with_reducible refine kQ ?_ ?_); kernel_rfl) | ((with_reducible refine k1 ?_ ?_); rfl) | ((with_reducible refine k0 ?_ ?_); rfl) | ((with_reducible apply kB) <;> first | rfl | intro h) | ((with_reducible refine kM ?_ ?_); rfl) | (with_reducible refine Wt.h (fun h => ?_) (fun h => ?_)) <;> try (exfalso; omega) | (with_reducible refine Wu.h (fun h => ?_) (fun h => ?_)) <;> try simp only [h] | ((fail_if_success with_reducible refine Wz.h ?_); simp (disch := omega) only [↓LD, LU, LS, LT, loadA_rf, seval, orN]) | ((with_reducible refine And.intro ?_ ?_); omega) | ((fail_if_success with_reducible refine Wz.h ?_); simp only [D.int, D.bool]))
        refine callW_emb c_byte_Clone0 [] (by kernel_rfl) rfl rfl ?_
        rintro _ _ ⟨rfl, rfl⟩
        repeat' (first | (with_reducible first | refine Wa.h ?_ | refine Ws.h ?_ | refine Wb.h fun K hK => ?_ | (refine hK _ ?_; clear hK K)) | ((with_reducible refine kQ ?_ ?_); kernel_rfl) | ((with_reducible refine k1 ?_ ?_); rfl) | ((with_reducible refine k0 ?_ ?_); rfl) | ((with_reducible apply kB) <;> first | rfl | intro h) | ((with_reducible refine kM ?_ ?_); rfl) | (with_reducible refine Wt.h (fun h => ?_) (fun h => ?_)) <;> try (exfalso; omega) | (with_reducible refine Wu.h (fun h => ?_) (fun h => ?_)) <;> try simp only [h] | ((fail_if_success with_reducible refine Wz.h ?_); simp (disch := omega) only [↓LD, LU, LS, LT, loadA_rf, seval, List.append_nil]) | ((with_reducible refine And.intro ?_ ?_); omega) | ((fail_if_success with_reducible refine Wz.h ?_); simp only [D.int, D.bool]))
        exact endA rfl rfl ⟨rfl, rfl⟩
      | some y =>
        obtain ⟨h1, h2⟩ := he.get hg
        obtain ⟨q, hq⟩ : ∃ q, y.length = q + 1 := by
          cases y with
          | nil => exact absurd rfl h1
          | cons z y => exact ⟨y.length, rfl⟩
        repeat' (first | (with_reducible first | refine Wa.h ?_ | refine Ws.h ?_ | refine Wb.h fun K hK => ?_ | (refine hK _ ?_; clear hK K)) | ((with_reducible refine kQ ?_ ?_); kernel_rfl) | ((with_reducible refine k1 ?_ ?_); rfl) | ((with_reducible refine k0 ?_ ?_); rfl) | ((with_reducible apply kB) <;> first | rfl | intro h) | ((with_reducible refine kM ?_ ?_); rfl) | (with_reducible refine Wt.h (fun h => ?_) (fun h => ?_)) <;> try (exfalso; omega) | (with_reducible refine Wu.h (fun h => ?_) (fun h => ?_)) <;> try simp only [h] | ((fail_if_success with_reducible refine Wz.h ?_); simp (disch := omega) only [↓LD, LU, LS, LT, loadA_rf, seval, dkR, dkB, dkP]) | ((with_reducible refine And.intro ?_ ?_); omega) | ((fail_if_success with_reducible refine Wz.h ?_); simp only [D.int, D.bool]))
        refine bind'_of (look_mF rfl) ?_
        rw [hg]
        repeat' (first | (with_reducible first | refine Wa.h ?_ | refine Ws.h ?_ | refine Wb.h fun K hK => ?_ | (refine hK _ ?_; clear hK K)) | ((with_reducible refine kQ ?_ ?_); kernel_rfl) | ((with_reducible refine k1 ?_ ?_); rfl) | ((with_reducible refine k0 ?_ ?_); rfl) | ((with_reducible apply kB) <;> first | rfl | intro h) | ((with_reducible refine kM ?_ ?_); rfl) | (with_reducible refine Wt.h (fun h => ?_) (fun h => ?_)) <;> try (exfalso; omega) | (with_reducible refine Wu.h (fun h => ?_) (fun h => ?_)) <;> try simp only [h] | ((fail_if_success with_reducible refine Wz.h ?_); simp (disch := omega) only [↓LD, LU, LS, LT, loadA_rf, seval, orN]) | ((with_reducible refine And.intro ?_ ?_); omega) | ((fail_if_success with_reducible refine Wz.h ?_); simp only [D.int, D.bool]))
        refine callW_emb (c_byte_CloneF y q hq (by omega)) [] (by kernel_rfl) rfl rfl ?_
        rintro _ _ ⟨rfl, rfl⟩
        repeat' (first | (with_reducible first | refine Wa.h ?_ | refine Ws.h ?_ | refine Wb.h fun K hK => ?_ | (refine hK _ ?_; clear hK K)) | ((with_reducible refine kQ ?_ ?_); kernel_rfl) | ((with_reducible refine k1 ?_ ?_); rfl) | ((with_reducible refine k0 ?_ ?_); rfl) | ((with_reducible apply kB) <;> first | rfl | intro h) | ((with_reducible refine kM ?_ ?_); rfl) | (with_reducible refine Wt.h (fun h => ?_) (fun h => ?_)) <;> try (exfalso; omega) | (with_reducible refine Wu.h (fun h => ?_) (fun h => ?_)) <;> try simp only [h] | ((fail_if_success with_reducible refine Wz.h ?_); simp (disch := omega) only [↓LD, LU, LS, LT, loadA_rf, seval, List.append_nil]) | ((with_reducible refine And.intro ?_ ?_); omega) | ((fail_if_success with_reducible refine Wz.h ?_); simp only [D.int, D.bool]))
        exact endA rfl rfl ⟨rfl, rfl⟩
    · repeat' (first | (with_reducible first | refine Wa.h ?_ | refine Ws.h ?_ | refine Wb.h fun K hK => ?_ | (refine hK _ ?_; clear hK K)) | ((with_reducible refine kQ ?_ ?_); kernel_rfl) | ((with_reducible refine k1 ?_ ?_); rfl) | ((with_reducible refine k0 ?_ ?_); rfl) | ((with_reducible apply kB) <;> first | rfl | intro h) | ((with_reducible refine kM ?_ ?_); rfl) | (with_reducible refine Wt.h (fun h => ?_) (fun h => ?_)) <;> try (exfalso; omega) | (with_reducible refine Wu.h (fun h => ?_) (fun h => ?_)) <;> try simp only [h] | ((fail_if_success with_reducible refine Wz.h ?_); simp (disch := omega) only [↓LD, LU, LS, LT, loadA_rf, seval, dkR, dkB, dkP]) | ((with_reducible refine And.intro ?_ ?_); omega) | ((fail_if_success with_reducible refine Wz.h ?_); simp only [D.int, D.bool]))
      exact endA rfl rfl ⟨rfl, rfl⟩

/-- A file of these bytes: none, if there are none. -/
def opt (a : List UInt8) : Option (List UInt8) := if a = [] then none else some a
def eAB (a b : List UInt8) : Fs := fDo (fDo [] 0 a) 1 b
theorem eAB_0 (a b : List UInt8) : fGet (eAB a b) 0 = opt a := by
  cases a <;> cases b <;> simp [eAB, fDo, fPut, fGet, fDel, opt]
theorem eAB_1 (a b : List UInt8) : fGet (eAB a b) 1 = opt b := by
  cases a <;> cases b <;> simp [eAB, fDo, fPut, fGet, fDel, opt]
theorem eAB_2 (a b : List UInt8) : fGet (eAB a b) 2 = none := by
  cases a <;> cases b <;> simp [eAB, fDo, fPut, fGet, fDel, opt]
theorem eAB_ok (a b : List UInt8) (B : Nat) (ha : a.length ≤ B) (hb : b.length ≤ B) : FsOk (eAB a b) B := by
  intro p hp
  cases a <;> cases b <;> simp [eAB, fDo, fPut, fGet, fDel] at hp
  · subst hp; exact ⟨by simp, hb⟩
  · subst hp; exact ⟨by simp, ha⟩
  · rcases hp with rfl | rfl
    · exact ⟨by simp, ha⟩
    · exact ⟨by simp, hb⟩
theorem eA_1 (a : List UInt8) : fGet (fDo [] 0 a) 1 = none := by
  cases a <;> simp [fDo, fPut, fGet, fDel]
theorem eA_ok (a : List UInt8) (B : Nat) (ha : a.length ≤ B) : FsOk (fDo [] 0 a) B := by
  intro p hp
  cases a <;> simp [fDo, fPut, fGet, fDel] at hp
  subst hp; exact ⟨by simp, ha⟩
theorem orN_none : orN none = .f (.v (.slice none 0 0)) := id rfl
theorem elemsS_opt {H : List Row} {a : List UInt8} : elemsS H 1 (orN (opt a)) = some (a.length, a.map uF) := by
  cases a <;> simp [opt, orN, elemsS, fY]
theorem elemsS_fY {H : List Row} {a : List UInt8} : elemsS H 1 (.f (fY a)) = some (a.length, a.map uF) := id rfl
theorem bytes_map : ∀ a : List UInt8, bytesOf? ((a.map uF).map .f) = some a
  | [] => rfl
  | x :: a => by
    have ih := bytes_map a
    simp only [List.map_cons, bytesOf?, ih, Option.map_some]
    simp
end Go.Proofs.Ytjbkckhpoicaeaa.Mir

/- DiskOrder: what a crash leaves of works on one file, in plain lists. -/
namespace Go.Proofs.Ytjbkckhpoicaeaa.Mir
open Go Go.RowKit
set_option linter.unusedVariables false
set_option linter.unusedSimpArgs false

def BB (l : List UInt8) : ByteArray := ⟨l.toArray⟩
theorem bb_size {l : List UInt8} : (BB l).size = l.length := by simp [BB, ByteArray.size]
theorem bb_app {l m : List UInt8} : BB l ++ BB m = BB (l ++ m) := by
  apply ByteArray.ext
  simp [BB, ByteArray.data_append]
theorem bb_take {l : List UInt8} {k : Nat} : (BB l).extract 0 k = BB (l.take k) := by
  apply ByteArray.ext
  simp [BB, ByteArray.data_extract]
theorem bb_inj {l m : List UInt8} : (BB l = BB m) = (l = m) := by
  apply propext
  constructor
  · intro h
    have := congrArg (fun b => b.data.toList) h
    simpa [BB] using this
  · rintro rfl; rfl
/-- The lists that are not empty, among the first i. -/
def neL (l : List (List UInt8)) (i : Nat) : List (List UInt8) := (l.take i).filter (fun b => !b.isEmpty)
theorem neL_0 {l : List (List UInt8)} : neL l 0 = [] := rfl
theorem neL_nil {l : List (List UInt8)} {i : Nat} (hi : i < l.length) (h : gt l i = []) : neL l (i + 1) = neL l i := by
  rw [gt_eq hi] at h
  unfold neL
  rw [List.take_add_one, List.filter_append, List.getElem?_eq_getElem hi, h]
  simp
theorem neL_cons {l : List (List UInt8)} {i : Nat} (hi : i < l.length) (h : gt l i ≠ []) : neL l (i + 1) = neL l i ++ [gt l i] := by
  rw [gt_eq hi] at h ⊢
  unfold neL
  rw [List.take_add_one, List.filter_append, List.getElem?_eq_getElem hi]
  simp [h]
theorem neL_len {l : List (List UInt8)} {i : Nat} : (neL l i).length ≤ i := by
  unfold neL
  refine Nat.le_trans (List.length_filter_le _ _) ?_
  rw [List.length_take]; omega
theorem neL_mem {l : List (List UInt8)} {i : Nat} {b : List UInt8} (h : b ∈ neL l i) : b ∈ l ∧ b ≠ [] := by
  unfold neL at h
  rw [List.mem_filter] at h
  refine ⟨List.mem_of_mem_take h.1, ?_⟩
  rintro rfl
  simp at h
theorem flat_len {m : Nat} : ∀ {l : List (List UInt8)}, (∀ b ∈ l, b.length ≤ m) → l.flatten.length ≤ l.length * m
  | [], _ => by simp
  | b :: l, h => by
    have h1 := h b (by simp)
    have h2 := flat_len (m := m) (l := l) fun c hc => h c (by simp [hc])
    simp only [List.flatten_cons, List.length_append, List.length_cons, Nat.add_mul]
    omega
theorem neL_flat {l : List (List UInt8)} {m : Nat} (h : ∀ b ∈ l, b.length ≤ m) (i : Nat) : (neL l i).flatten.length ≤ i * m :=
  Nat.le_trans (flat_len fun b hb => h b (neL_mem hb).1) (Nat.mul_le_mul_right m neL_len)
/-- Where each one ends. -/
def endsN (n : List (List UInt8)) : List Int := (List.range n.length).map fun j => ((n.take (j + 1)).flatten.length : Int)
theorem endsN_len {n : List (List UInt8)} : (endsN n).length = n.length := by simp [endsN]
theorem endsN_app {n : List (List UInt8)} {b : List UInt8} : endsN (n ++ [b]) = endsN n ++ [((n ++ [b]).flatten.length : Int)] := by
  unfold endsN
  rw [List.length_append, List.length_singleton, List.range_succ, List.map_append]
  congr 1
  · apply List.map_congr_left
    intro j hj
    rw [List.mem_range] at hj
    rw [List.take_append_of_le_length (by omega)]
  · simp only [List.map_cons, List.map_nil]
    rw [List.take_of_length_le (by simp)]
theorem endsN_at {n : List (List UInt8)} {j : Nat} (h : j < n.length) : (endsN n)[j]? = some ((n.take (j + 1)).flatten.length : Int) := by
  unfold endsN
  rw [List.getElem?_map, List.getElem?_range h]; rfl

def wks (n : List (List UInt8)) : List Wk := n.map fun b => ⟨0, b⟩
theorem wks_len {n : List (List UInt8)} : (wks n).length = n.length := by simp [wks]
theorem wks_at {n : List (List UInt8)} {i : Nat} (h : i < n.length) : gt (wks n) i = ⟨0, gt n i⟩ := by
  rw [gt_eq (by rw [wks_len]; exact h), gt_eq h]
  simp [wks]
theorem wks_app {n : List (List UInt8)} {b : List UInt8} : wks (n ++ [b]) = wks n ++ [(⟨0, b⟩ : Wk)] := by simp [wks]
/-- The one file's bytes. -/
def f0 (s : List UInt8) : Fs := fDo [] 0 s
theorem f0_get {s : List UInt8} : fGet (f0 s) 0 = opt s := by
  cases s <;> simp [f0, fDo, fPut, fGet, fDel, opt]
theorem f0_do {s b : List UInt8} (h : b ≠ []) : fDo (f0 s) 0 b = f0 (s ++ b) := by
  cases s <;> simp [f0, fDo, fPut, fGet, fDel, h]
theorem f0_ok {s : List UInt8} {B : Nat} (h : s.length ≤ B) : FsOk (f0 s) B := eA_ok s B h
/-- The part of the k-th. -/
def partL (n : List (List UInt8)) (p : Nat) (cut : Int) : List UInt8 := if p < n.length then (gt n p).take (restN cut ((gt n p).length + 1 : Nat)).toNat else []
def preL (n : List (List UInt8)) (p : Nat) (cut : Int) (i : Nat) : List UInt8 := (n.take (min i p)).flatten ++ if p < i then partL n p cut else []
theorem crF_f0 {n : List (List UInt8)} (hn : ∀ b ∈ n, b ≠ []) (p : Nat) (cut : Int) : ∀ i, i ≤ n.length → crF [] (wks n) p cut i = f0 (preL n p cut i)
  | 0, _ => by simp [crF, preL, f0, fDo, fDel]
  | i + 1, h => by
    have hi : i < n.length := by omega
    have hne : gt n i ≠ [] := hn _ (by rw [gt_eq hi]; exact List.getElem_mem hi)
    have hpl : (gt n i).length ≠ 0 := fun e => hne (List.eq_nil_of_length_eq_zero e)
    rw [crF, crF_f0 hn p cut i (by omega), wks_at hi]
    unfold stepC
    dsimp only
    by_cases h1 : i < p
    · rw [if_pos (by omega), f0_do hne]
      congr 1
      unfold preL
      rw [if_neg (by omega), if_neg (by omega), show min i p = i by omega, show min (i + 1) p = i + 1 by omega, List.take_add_one, List.getElem?_eq_getElem hi, gt_eq hi, List.append_nil, List.append_nil, List.flatten_append]
      simp
    · rw [if_neg (by omega)]
      by_cases h2 : i = p
      · subst h2
        unfold preL
        rw [if_neg (show ¬ i < i by omega), if_pos (show i < i + 1 by omega), Nat.min_self, show min (i + 1) i = i by omega, List.append_nil]
        unfold partL
        rw [if_pos hi]
        by_cases h4 : (gt n i).take (restN cut ((gt n i).length + 1 : Nat)).toNat = []
        · rw [if_neg (fun h3 => h3.2.2 h4), h4, List.append_nil]
        · rw [if_pos ⟨rfl, hne, h4⟩, f0_do h4]
      · rw [if_neg (by omega)]
        unfold preL
        rw [if_pos (by omega), if_pos (by omega), show min (i + 1) p = min i p by omega]
theorem part_len {n : List (List UInt8)} {p : Nat} {cut : Int} : (partL n p cut).length ≤ (gt n p).length := by
  unfold partL
  split
  · rw [List.length_take]; omega
  · simp
theorem flat_split {n : List (List UInt8)} {p : Nat} (h : p < n.length) : n.flatten = (n.take p).flatten ++ gt n p ++ (n.drop (p + 1)).flatten := by
  have h1 : n = n.take p ++ n[p] :: n.drop (p + 1) := by simp
  rw [gt_eq h]
  have h2 : n.flatten = (n.take p ++ n[p] :: n.drop (p + 1)).flatten := by rw [← h1]
  rw [h2, List.flatten_append, List.flatten_cons, List.append_assoc]
theorem flat_upto {n : List (List UInt8)} {p : Nat} : n.flatten = (n.take p).flatten ++ (n.drop p).flatten := by
  rw [← List.flatten_append, List.take_append_drop]
theorem take_flat_len {n : List (List UInt8)} {p : Nat} : (n.take p).flatten.length ≤ n.flatten.length := by
  rw [flat_upto (n := n) (p := p), List.length_append]; omega
/-- What is there is a beginning of all. -/
theorem pre_take {n : List (List UInt8)} {p : Nat} {cut : Int} (hp : p ≤ n.length) : n.flatten.take (preL n p cut n.length).length = preL n p cut n.length := by
  unfold preL
  rw [show min n.length p = p by omega]
  by_cases h : p < n.length
  · rw [if_pos h]
    unfold partL
    rw [if_pos h, flat_split h, List.append_assoc, List.length_append, List.take_append, List.take_of_length_le (by omega)]
    congr 1
    rw [show (n.take p).flatten.length + ((gt n p).take (restN cut ((gt n p).length + 1 : Nat)).toNat).length - (n.take p).flatten.length = ((gt n p).take (restN cut ((gt n p).length + 1 : Nat)).toNat).length by omega]
    rw [List.take_append_of_le_length (by rw [List.length_take]; omega), List.length_take, List.take_eq_take_iff]
    omega
  · rw [if_neg h, List.append_nil, show p = n.length by omega, List.take_length, List.take_length]
theorem pre_len {n : List (List UInt8)} {p : Nat} {cut : Int} {i : Nat} (hi : i ≤ n.length) : (preL n p cut i).length ≤ n.flatten.length := by
  unfold preL
  by_cases h : p < i
  · rw [if_pos h, show min i p = p by omega, flat_split (n := n) (p := p) (by omega), List.length_append, List.length_append, List.length_append]
    have := part_len (n := n) (p := p) (cut := cut)
    omega
  · rw [if_neg h, List.append_nil]
    exact take_flat_len
theorem pre_least {n : List (List UInt8)} {p : Nat} {cut : Int} (hp : p ≤ n.length) : (n.take p).flatten.length ≤ (preL n p cut n.length).length := by
  unfold preL
  rw [show min n.length p = p by omega, List.length_append]; omega
theorem pre_most {n : List (List UInt8)} {p : Nat} {cut : Int} (hp : p < n.length) : (preL n p cut n.length).length ≤ (n.take (p + 1)).flatten.length := by
  unfold preL
  have := part_len (n := n) (p := p) (cut := cut)
  rw [show min n.length p = p by omega, List.length_append, if_pos hp, List.take_add_one, List.getElem?_eq_getElem hp]
  rw [gt_eq hp] at this
  simp only [Option.toList_some, List.flatten_append, List.length_append, List.flatten_cons, List.flatten_nil, List.length_nil]
  omega
end Go.Proofs.Ytjbkckhpoicaeaa.Mir

/- DiskFiles: files beside what is wanted of them, in plain lists. -/
namespace Go.Proofs.Ytjbkckhpoicaeaa.Mir
open Go Go.RowKit
set_option linter.unusedVariables false
set_option linter.unusedSimpArgs false

theorem fGet_put {k j : Int} {b : List UInt8} : ∀ {l : Fs}, fGet (fPut k b l) j = if j = k then some b else fGet l j
  | [] => by simp [fPut, fGet]
  | p :: l => by
    have ih := fGet_put (k := k) (j := j) (b := b) (l := l)
    unfold fPut
    split
    · rename_i h
      simp only [fGet, ← h]
      split <;> rfl
    · rename_i h
      simp only [fGet, ih]
      by_cases hj : j = p.1
      · rw [if_pos hj, if_pos hj, if_neg (fun e => h (by rw [← e, hj]))]
      · rw [if_neg hj, if_neg hj]
theorem put_keys {k : Int} {b : List UInt8} : ∀ {l : Fs} {x : Int}, x ∈ (fPut k b l).map (·.1) ↔ x = k ∨ x ∈ l.map (·.1)
  | [], x => by simp [fPut]
  | p :: l, x => by
    have ih := put_keys (k := k) (b := b) (l := l) (x := x)
    unfold fPut
    split
    · rename_i h
      simp only [List.map_cons, List.mem_cons, ← h]
      constructor
      · rintro (h1 | h1)
        · exact .inl h1
        · exact .inr (.inr h1)
      · rintro (h1 | h1 | h1)
        · exact .inl h1
        · exact .inl h1
        · exact .inr h1
    · simp only [List.map_cons, List.mem_cons, ih]
      constructor
      · rintro (h1 | h1 | h1)
        · exact .inr (.inl h1)
        · exact .inl h1
        · exact .inr (.inr h1)
      · rintro (h1 | h1 | h1)
        · exact .inr (.inl h1)
        · exact .inl h1
        · exact .inr (.inr h1)
theorem put_nodup {k : Int} {b : List UInt8} : ∀ {l : Fs}, (l.map (·.1)).Nodup → ((fPut k b l).map (·.1)).Nodup
  | [], _ => by simp [fPut]
  | p :: l, h => by
    rw [List.map_cons, List.nodup_cons] at h
    unfold fPut
    split
    · rename_i hk
      rw [List.map_cons, List.nodup_cons]
      exact ⟨by rw [hk]; exact h.1, h.2⟩
    · rename_i hk
      rw [List.map_cons, List.nodup_cons]
      refine ⟨fun hm => ?_, put_nodup h.2⟩
      rcases put_keys.1 hm with h1 | h1
      · exact hk h1.symm
      · exact h.1 h1
theorem get_none {k : Int} : ∀ {l : Fs}, fGet l k = none ↔ k ∉ l.map (·.1)
  | [] => by simp [fGet]
  | p :: l => by
    have ih := get_none (k := k) (l := l)
    unfold fGet
    split
    · rename_i h; simp [h]
    · rename_i h; simp only [ih, List.map_cons, List.mem_cons, not_or]; exact ⟨fun h1 => ⟨h, h1⟩, fun h1 => h1.2⟩
theorem del_none {k : Int} : ∀ {l : Fs}, fGet l k = none → fDel k l = l
  | [], _ => rfl
  | p :: l, h => by
    unfold fGet at h
    split at h
    · cases h
    · rename_i hk
      unfold fDel
      rw [if_neg hk, del_none h]
theorem del_keys {k x : Int} : ∀ {l : Fs}, x ∈ (fDel k l).map (·.1) → x ∈ l.map (·.1)
  | [], h => h
  | p :: l, h => by
    unfold fDel at h
    split at h
    · simp only [List.map_cons, List.mem_cons]; exact .inr h
    · rw [List.map_cons, List.mem_cons] at h ⊢
      rcases h with h | h
      · exact .inl h
      · exact .inr (del_keys h)
theorem del_nodup {k : Int} : ∀ {l : Fs}, (l.map (·.1)).Nodup → ((fDel k l).map (·.1)).Nodup
  | [], h => h
  | p :: l, h => by
    rw [List.map_cons, List.nodup_cons] at h
    unfold fDel
    split
    · exact h.2
    · rw [List.map_cons, List.nodup_cons]
      exact ⟨fun hm => h.1 (del_keys hm), del_nodup h.2⟩
theorem fGet_del {k j : Int} : ∀ {l : Fs}, (l.map (·.1)).Nodup → fGet (fDel k l) j = if j = k then none else fGet l j
  | [], _ => by simp [fDel, fGet]
  | p :: l, h => by
    rw [List.map_cons, List.nodup_cons] at h
    have ih := fGet_del (k := k) (j := j) (l := l) h.2
    unfold fDel
    split
    · rename_i hk
      by_cases hj : j = k
      · rw [if_pos hj, get_none, hj, hk]; exact h.1
      · rw [if_neg hj, fGet, if_neg (by rw [← hk]; exact hj)]
    · rename_i hk
      simp only [fGet, ih]
      by_cases hj : j = p.1
      · rw [if_pos hj, if_pos hj, if_neg (fun e => hk (by rw [← e, hj]))]
      · rw [if_neg hj, if_neg hj]
theorem get_mem {k : Int} {b : List UInt8} : ∀ {l : Fs}, (l.map (·.1)).Nodup → (k, b) ∈ l → fGet l k = some b
  | p :: l, h, hm => by
    rw [List.map_cons, List.nodup_cons] at h
    unfold fGet
    rcases List.mem_cons.1 hm with h1 | h1
    · rw [← h1, if_pos rfl]
    · rw [if_neg, get_mem h.2 h1]
      intro e
      exact h.1 (List.mem_map.2 ⟨_, h1, e⟩)
theorem pw_ext : ∀ {l m : List Int}, l.Pairwise (· < ·) → m.Pairwise (· < ·) → (∀ x, x ∈ l ↔ x ∈ m) → l = m
  | [], [], _, _, _ => rfl
  | [], y :: m, _, _, h => by have := (h y).2 (by simp); cases this
  | x :: l, [], _, _, h => by have := (h x).1 (by simp); cases this
  | x :: l, y :: m, hl, hm, h => by
    rw [List.pairwise_cons] at hl hm
    have hxy : x = y := by
      have h1 := (h x).1 (by simp)
      have h2 := (h y).2 (by simp)
      rcases List.mem_cons.1 h1 with h1 | h1
      · exact h1
      · rcases List.mem_cons.1 h2 with h2 | h2
        · exact h2.symm
        · have := hm.1 _ h1; have := hl.1 _ h2; omega
    subst hxy
    rw [pw_ext hl.2 hm.2 fun z => ?_]
    constructor
    · intro hz
      rcases List.mem_cons.1 ((h z).1 (by simp [hz])) with h1 | h1
      · have := hl.1 z hz; omega
      · exact h1
    · intro hz
      rcases List.mem_cons.1 ((h z).2 (by simp [hz])) with h1 | h1
      · have := hm.1 z hz; omega
      · exact h1
/-- Files as they are wanted, of the first m numbers. -/
structure FW (m : Nat) (B : Nat) (e : Fs) (w : List (List UInt8)) : Prop where
  len : w.length = m
  nd : (e.map (·.1)).Nodup
  keys : ∀ x : Int, x ∈ e.map (fun p => p.1) → 0 ≤ x ∧ x < (m : Int)
  get : ∀ k, k < m → fGet e k = opt (gt w k)
  size : ∀ b ∈ w, b.length ≤ B
theorem FW.nil (m B : Nat) : FW m B [] (List.replicate m []) := by
  refine ⟨List.length_replicate, List.nodup_nil, fun x hx => (by cases hx), fun k hk => ?_, fun b hb => by rw [List.eq_of_mem_replicate hb]; simp⟩
  rw [gt_eq (by simpa using hk)]
  simp [fGet, opt]
theorem FW.mono {m B B' : Nat} {e : Fs} {w : List (List UInt8)} (h : FW m B e w) (hb : B ≤ B') : FW m B' e w := ⟨h.len, h.nd, h.keys, h.get, fun b hb' => Nat.le_trans (h.size b hb') hb⟩
theorem FW.at {m B : Nat} {e : Fs} {w : List (List UInt8)} (h : FW m B e w) {k : Nat} (hk : k < m) : (gt w k).length ≤ B := h.size _ (gt_mem' (by rw [h.len]; exact hk))
where
  gt_mem' {l : List (List UInt8)} {k : Nat} (h : k < l.length) : gt l k ∈ l := by rw [gt_eq h]; exact List.getElem_mem h
theorem gt_set' {l : List (List UInt8)} {i j : Nat} {x : List UInt8} (hi : i < l.length) : gt (l.set i x) j = if i = j then x else gt l j := by
  unfold gt
  by_cases h : i = j
  · subst h
    rw [if_pos rfl, getElem!_pos _ i (by rw [List.length_set]; exact hi), List.getElem_set_self]
  · rw [if_neg h]
    by_cases hj : j < l.length
    · rw [getElem!_pos _ j (by rw [List.length_set]; exact hj), getElem!_pos _ j hj, List.getElem_set_ne h]
    · rw [getElem!_neg _ j (by rw [List.length_set]; exact hj), getElem!_neg _ j hj]
theorem opt_getD {a : List UInt8} : (opt a).getD [] = a := by
  unfold opt
  split
  · rename_i h; rw [h]; rfl
  · rfl
theorem FW.set {m B B' : Nat} {e : Fs} {w : List (List UInt8)} (h : FW m B e w) {k : Nat} (hk : k < m) {b : List UInt8} (hb : b ≠ []) (hB : B + b.length ≤ B') : FW m B' (fDo e k b) (w.set k (gt w k ++ b)) := by
  have hkw : k < w.length := by rw [h.len]; exact hk
  have hat := h.at hk
  have he : fDo e k b = fPut k (gt w k ++ b) e := by rw [fDo, if_neg hb, h.get k hk, opt_getD]
  rw [he]
  refine ⟨by rw [List.length_set]; exact h.len, put_nodup h.nd, fun x hx => ?_, fun j hj => ?_, fun c hc => ?_⟩
  · rcases put_keys.1 hx with rfl | hx
    · omega
    · exact h.keys x hx
  · rw [fGet_put, gt_set' hkw]
    by_cases hjk : j = k
    · subst hjk
      rw [if_pos rfl, if_pos rfl, opt, if_neg (by simp [hb])]
    · rw [if_neg (by omega), if_neg (by omega)]
      exact h.get j hj
  · rcases List.mem_or_eq_of_mem_set hc with hc | rfl
    · have := h.size c hc; omega
    · rw [List.length_append]; omega
theorem FW.same {m B : Nat} {e : Fs} {w : List (List UInt8)} (h : FW m B e w) {k : Nat} (hk : k < m) : w.set k (gt w k ++ []) = w := by
  have hkw : k < w.length := by rw [h.len]; exact hk
  rw [List.append_nil, gt_eq hkw]
  exact List.set_getElem_self hkw
theorem FW.del {m B : Nat} {e : Fs} {w : List (List UInt8)} (h : FW m B e w) {k : Nat} (hk : k < m) : FW m B (fDo e k []) (w.set k []) := by
  have hkw : k < w.length := by rw [h.len]; exact hk
  have he : fDo e k [] = fDel k e := by rw [fDo, if_pos rfl]
  rw [he]
  refine ⟨by rw [List.length_set]; exact h.len, del_nodup h.nd, fun x hx => h.keys x (del_keys hx), fun j hj => ?_, fun c hc => ?_⟩
  · rw [fGet_del h.nd, gt_set' hkw]
    by_cases hjk : j = k
    · subst hjk
      rw [if_pos rfl, if_pos rfl]; rfl
    · rw [if_neg (by omega), if_neg (by omega)]
      exact h.get j hj
  · rcases List.mem_or_eq_of_mem_set hc with hc | rfl
    · exact h.size c hc
    · simp
theorem FW.del0 {m B : Nat} {e : Fs} {w : List (List UInt8)} (h : FW m B e w) {k : Nat} (hk : k < m) (hn : fGet e k = none) : w.set k [] = w := by
  have h1 := h.get k hk
  rw [hn] at h1
  have h2 : gt w k = [] := by
    unfold opt at h1
    split at h1
    · assumption
    · cases h1
  have h3 : w[k]'(by rw [h.len]; exact hk) = [] := by rw [← gt_eq (by rw [h.len]; exact hk)]; exact h2
  have hkw : k < w.length := by rw [h.len]; exact hk
  have h5 : w.set k w[k] = w := List.set_getElem_self hkw
  rw [h3] at h5
  exact h5
theorem FW.ok {m B : Nat} {e : Fs} {w : List (List UInt8)} (h : FW m B e w) : FsOk e B := by
  rintro ⟨x, b⟩ hp
  have hx := h.keys x (List.mem_map.2 ⟨_, hp, rfl⟩)
  obtain ⟨k, rfl⟩ := Int.eq_ofNat_of_zero_le hx.1
  have h1 := get_mem h.nd hp
  rw [h.get k (by omega)] at h1
  have h2 := h.at (k := k) (by omega)
  unfold opt at h1
  split at h1
  · cases h1
  · rename_i hne
    injection h1 with h1
    rw [← h1]
    exact ⟨hne, h2⟩
/-- The numbers of those that are there. -/
def upTo (w : List (List UInt8)) (j : Nat) : List Nat := (List.range j).filter fun i => !(gt w i).isEmpty
def flL (w : List (List UInt8)) (m : Nat) : List Int := (upTo w m).map fun i : Nat => (i : Int)
theorem upTo_succ {w : List (List UInt8)} {j : Nat} : upTo w (j + 1) = if gt w j = [] then upTo w j else upTo w j ++ [j] := by
  unfold upTo
  rw [List.range_succ, List.filter_append]
  split
  · rename_i h; simp [h]
  · rename_i h; simp [h]
theorem upTo_pre {w : List (List UInt8)} : ∀ {m j : Nat}, j ≤ m → ∃ t, upTo w m = upTo w j ++ t
  | 0, j, h => by
    obtain rfl : j = 0 := by omega
    exact ⟨[], (List.append_nil _).symm⟩
  | m + 1, j, h => by
    by_cases hj : j = m + 1
    · subst hj; exact ⟨[], by simp⟩
    · obtain ⟨t, ht⟩ := upTo_pre (w := w) (m := m) (j := j) (by omega)
      rw [upTo_succ, ht]
      split
      · exact ⟨t, rfl⟩
      · exact ⟨t ++ [m], by simp⟩
theorem flL_at {w : List (List UInt8)} {m j : Nat} (hj : j < m) (h : gt w j ≠ []) : (upTo w j).length < (flL w m).length ∧ gt (flL w m) (upTo w j).length = j := by
  obtain ⟨t, ht⟩ := upTo_pre (w := w) (m := m) (j := j + 1) (by omega)
  rw [upTo_succ, if_neg h] at ht
  have e : flL w m = ((upTo w j).map fun i : Nat => (i : Int)) ++ (j : Int) :: t.map fun i : Nat => (i : Int) := by
    rw [flL, ht]; simp
  have hl : (upTo w j).length < (flL w m).length := by rw [e]; simp
  refine ⟨hl, ?_⟩
  rw [gt_eq hl]
  simp only [e]
  rw [List.getElem_append_right (by simp)]
  simp
theorem flL_len {w : List (List UInt8)} {m : Nat} : (flL w m).length = (upTo w m).length := by simp [flL]
theorem upTo_pw {w : List (List UInt8)} : ∀ m, (upTo w m).Pairwise (· < ·) := fun m => (List.pairwise_lt_range).filter _
theorem FW.files {m B : Nat} {e : Fs} {w : List (List UInt8)} (h : FW m B e w) : sortL (e.map (·.1)) = flL w m := by
  have hp := sortL_perm (e.map (·.1))
  refine pw_ext ?_ ?_ fun x => ?_
  · have h1 := sortL_rise (e.map (·.1))
    have h2 : (sortL (e.map (·.1))).Nodup := hp.symm.nodup h.nd
    exact (List.Pairwise.and h1 h2).imp (fun ⟨h3, h4⟩ => by omega)
  · exact List.pairwise_map.2 ((upTo_pw m).imp fun h => by omega)
  · rw [hp.mem_iff]
    constructor
    · intro hx
      have hk := h.keys x hx
      obtain ⟨k, rfl⟩ := Int.eq_ofNat_of_zero_le hk.1
      have h1 : gt w k ≠ [] := fun e' => by
        have h2 := h.get k (by omega)
        rw [e', opt, if_pos rfl] at h2
        exact get_none.1 h2 hx
      exact List.mem_map.2 ⟨k, List.mem_filter.2 ⟨List.mem_range.2 (by omega), by simp [h1]⟩, rfl⟩
    · intro hx
      obtain ⟨k, hk, rfl⟩ := List.mem_map.1 hx
      obtain ⟨hk1, hk2⟩ := List.mem_filter.1 hk
      have hk1 := List.mem_range.1 hk1
      refine Classical.byContradiction fun hn => ?_
      have h1 := get_none.2 hn
      rw [h.get k hk1, opt] at h1
      split at h1
      · rename_i h2; simp [h2] at hk2
      · cases h1
theorem FW.in' {m B : Nat} {e : Fs} {w : List (List UInt8)} (h : FW m B e w) (hm : m ≤ 1000) : KeysIn e := by
  refine ⟨?_, fun p hp => by have := h.keys p.1 (List.mem_map.2 ⟨p, hp, rfl⟩); omega⟩
  have h1 := sortL_len (e.map (·.1))
  rw [h.files, flL_len, List.length_map] at h1
  have h2 : (upTo w m).length ≤ m := Nat.le_trans (List.length_filter_le _ _) (by simp)
  omega
theorem FW.nil_iff {m B : Nat} {e : Fs} {w : List (List UInt8)} (h : FW m B e w) : (flL w m).length = e.length := by
  rw [← h.files, sortL_len, List.length_map]
end Go.Proofs.Ytjbkckhpoicaeaa.Mir

/- DiskPlays: the program's files beside the document's, in plain lists. -/
namespace Go.Proofs.Ytjbkckhpoicaeaa.Mir
open Go Go.RowKit
set_option linter.unusedVariables false
set_option linter.unusedSimpArgs false

theorem gt_out {w : List Bs} {i : Nat} (h : w.length ≤ i) : gt w i = [] := by unfold gt; rw [getElem!_neg _ i (by omega)]; rfl
theorem gt_pad {w : List Bs} {n i : Nat} : gt (padL w n) i = gt w i := by
  by_cases h : i < w.length
  · rw [gt_eq (by rw [padL_len]; omega), gt_eq h]
    simp only [padL]
    rw [List.getElem_append_left h]
  · by_cases h2 : i < n
    · rw [gt_out (w := w) (by omega), gt_eq (by rw [padL_len]; omega)]
      simp only [padL]
      rw [List.getElem_append_right (by omega), List.getElem_replicate]
    · rw [gt_out (w := w) (by omega), gt_out (by rw [padL_len]; omega)]
theorem gt_ext {l m : List Bs} (h : l.length = m.length) (k : ∀ i, i < l.length → gt l i = gt m i) : l = m := by
  apply List.ext_getElem h
  intro i h1 h2
  have := k i h1
  rw [gt_eq h1, gt_eq h2] at this
  exact this
def OpIn (o : Op) : Prop := 0 ≤ o.k ∧ o.k < 5 ∧ (o.rm = true ↔ o.b = [])
def opW (o : Op) : Wk := ⟨o.k, o.b⟩
theorem turn5_len {w : List Bs} {o : Op} (h : OpIn o) (hw : w.length ≤ 5) : (turnL w o).length ≤ 5 := by
  have := h.2.1; have := h.1
  rw [turnL_len]; omega
theorem turn_pad {w : List Bs} {o : Op} (h : OpIn o) (hw : w.length ≤ 5) : padL (turnL w o) 5 = (padL w 5).set o.k.toNat (if o.rm then [] else gt (padL w 5) o.k.toNat ++ o.b) := by
  have h1 := h.1; have h2 := h.2.1
  have hl := turn5_len h hw
  have hkl : o.k.toNat < (padL w (o.k.toNat + 1)).length := by rw [padL_len]; omega
  have hk5 : o.k.toNat < (padL w 5).length := by rw [padL_len]; omega
  refine gt_ext (by rw [List.length_set, padL_len, padL_len]; omega) fun i hi => ?_
  rw [gt_pad, gt_set' hk5]
  unfold turnL
  cases o.rm with
  | true =>
    simp only [↓reduceIte]
    rw [gt_set' hkl]; simp only [gt_pad]
  | false =>
    simp only [Bool.false_eq_true, ↓reduceIte]
    rw [gt_set' hkl]; simp only [gt_pad]
theorem FW.turn {B B' : Nat} {e : Fs} {w : List Bs} (hw : w.length ≤ 5) (h : FW 5 B e (padL w 5)) {o : Op} (ho : OpIn o) (hB : B + o.b.length ≤ B') : FW 5 B' (fDo e o.k o.b) (padL (turnL w o) 5) := by
  have h1 := ho.1; have h2 := ho.2.1
  rw [turn_pad ho hw]
  have hk : ((o.k.toNat : Nat) : Int) = o.k := by omega
  cases hr : o.rm with
  | true =>
    have hb := ho.2.2.1 hr
    have := (h.mono (B' := B') (by omega)).del (k := o.k.toNat) (by omega)
    rw [hk] at this
    rw [hb]
    exact this
  | false =>
    have hb : o.b ≠ [] := fun e => by have := ho.2.2.2 e; rw [hr] at this; cases this
    have := h.set (k := o.k.toNat) (by omega) hb hB
    rw [hk] at this
    exact this
theorem now_len {w : List Bs} : ∀ {ps : List Op}, w.length ≤ 5 → (∀ o ∈ ps, OpIn o) → (nowL w ps).length ≤ 5
  | [], h, _ => h
  | o :: ps, h, ho => now_len (w := turnL w o) (ps := ps) (turn5_len (ho o (by simp)) h) fun x hx => ho x (by simp [hx])
/-- The program's disk beside the document's. -/
structure Rl (B : Nat) (e1 e2 : Fs) (ws : List Wk) (w : List Bs) (ps : List Op) : Prop where
  wl : w.length ≤ 5
  ops : ∀ o ∈ ps, OpIn o
  wsE : ws = ps.map opW
  f1 : FW 5 B e1 (padL w 5)
  f2 : FW 5 B e2 (padL (nowL w ps) 5)
  tot : totW w + totP ps ≤ B
theorem Rl.mono {B B' : Nat} {e1 e2 : Fs} {ws : List Wk} {w : List Bs} {ps : List Op} (h : Rl B e1 e2 ws w ps) (hB : B ≤ B') : Rl B' e1 e2 ws w ps :=
  ⟨h.wl, h.ops, h.wsE, h.f1.mono hB, h.f2.mono hB, by have := h.tot; omega⟩
theorem Rl.start : Rl 0 [] [] [] [] [] := ⟨by simp, fun o ho => (by cases ho), rfl, FW.nil 5 0, FW.nil 5 0, by simp [totW, totP]⟩
theorem Rl.rd {B : Nat} {e1 e2 : Fs} {ws : List Wk} {w : List Bs} {ps : List Op} (h : Rl B e1 e2 ws w ps) (hB : B ≤ 140737488355328) (hn : ps.length ≤ 1000000) : RdOk w ps :=
  ⟨by have := h.wl; omega, fun o ho => by have := h.ops o ho; exact ⟨this.1, by have := this.2.1; omega⟩, by have := h.tot; omega, hn⟩
/-- One more pends. -/
theorem Rl.put {B B' : Nat} {e1 e2 : Fs} {ws : List Wk} {w : List Bs} {ps : List Op} (h : Rl B e1 e2 ws w ps) {o : Op} (ho : OpIn o) (hB : B + o.b.length ≤ B') : Rl B' e1 (fDo e2 o.k o.b) (ws ++ [opW o]) w (ps ++ [o]) := by
  refine ⟨h.wl, fun x hx => ?_, by rw [h.wsE]; simp, h.f1.mono (by omega), ?_, ?_⟩
  · rcases List.mem_append.1 hx with hx | hx
    · exact h.ops x hx
    · obtain rfl := List.mem_singleton.1 hx; exact ho
  · have := FW.turn (now_len h.wl h.ops) h.f2 ho hB
    rw [nowL, List.foldl_append]
    exact this
  · have := h.tot
    have e : totP (ps ++ [o]) = totP ps + o.b.length := by simp [totP]
    omega
theorem totW_now {w : List Bs} {ps : List Op} : totW (nowL w ps) ≤ totW w + totP ps := by
  induction ps generalizing w with
  | nil => simp [nowL, totP]
  | cons o ps ih =>
    have h1 := totW_turn (w := w) (o := o)
    have h2 := ih (w := turnL w o)
    simp only [nowL, List.foldl_cons, totP, List.map_cons, List.sum_cons] at h2 ⊢
    omega
theorem Rl.sync {B : Nat} {e1 e2 : Fs} {ws : List Wk} {w : List Bs} {ps : List Op} (h : Rl B e1 e2 ws w ps) : Rl B e2 e2 [] (nowL w ps) [] :=
  ⟨now_len h.wl h.ops, fun o ho => (by cases ho), rfl, h.f2, h.f2, by have := h.tot; have := totW_now (w := w) (ps := ps); simp only [totP, List.map_nil, List.sum_nil]; omega⟩
theorem FW.re {B B' : Nat} {e : Fs} {w : List Bs} (h : FW 5 B' e (padL w 5)) (hB : totW w ≤ B) : FW 5 B e (padL w 5) :=
  ⟨h.len, h.nd, h.keys, h.get, fun b hb => by
    rcases List.mem_append.1 hb with hb | hb
    · have := totW_mem hb; omega
    · rw [List.eq_of_mem_replicate hb]; simp⟩
theorem rest_pick {x m : Int} (hm : 0 < m) : restN x m = pick x m := by
  have h1 := tmod_lt (x := x) hm
  have h2 := tmod_gt (x := x) hm
  unfold restN pick
  generalize x.tmod m = r at h1 h2 ⊢
  rw [Int.tmod_eq_emod_of_nonneg (by omega)]
  split
  · rw [Int.emod_eq_of_lt (by omega) (by omega)]
  · rw [Int.add_emod_right, Int.emod_eq_of_lt (by omega) (by omega)]
theorem gt_map {ps : List Op} {i : Nat} (h : i < ps.length) : gt (ps.map opW) i = opW (gt ps i) := by
  rw [gt_eq (by simpa using h), gt_eq h, List.getElem_map]
/-- What a crash leaves, work by work. -/
theorem Rl.pre {B : Nat} {e1 e2 : Fs} {ws : List Wk} {w : List Bs} {ps : List Op} (h : Rl B e1 e2 ws w ps) (c : Nat) (cut : Int) : ∀ i, i ≤ ps.length → i ≤ c → FW 5 B (crF e1 ws c cut i) (padL (nowL w (ps.take i)) 5) ∧ (nowL w (ps.take i)).length ≤ 5
  | 0, _, _ => ⟨h.f1, h.wl⟩
  | i + 1, hi, hc => by
    obtain ⟨k1, k2⟩ := Rl.pre h c cut i (by omega) (by omega)
    have ho := h.ops _ (gt_memR (show i < ps.length by omega))
    rw [nowL_take (by omega)]
    refine ⟨?_, turn5_len ho k2⟩
    have hs : crF e1 ws c cut (i + 1) = fDo (crF e1 ws c cut i) (gt ps i).k (gt ps i).b := by
      rw [crF, stepC, if_pos (by omega), h.wsE, gt_map (by omega)]; rfl
    rw [hs]
    have h3 := FW.turn k2 k1 ho (Nat.le_refl _)
    rw [← nowL_take (by omega)] at h3 ⊢
    refine h3.re ?_
    have := totW_now (w := w) (ps := ps.take (i + 1))
    have := totP_take ps (i + 1)
    have := h.tot
    omega
theorem turn_none {w : List Bs} {k : Int} (hk : 0 ≤ k ∧ k < 5) (hw : w.length ≤ 5) : (turnL w ⟨k, false, []⟩).length ≤ 5 ∧ padL (turnL w ⟨k, false, []⟩) 5 = padL w 5 := by
  have hl : (turnL w ⟨k, false, []⟩).length ≤ 5 := by rw [turnL_len]; dsimp only; omega
  have hkl : k.toNat < (padL w (k.toNat + 1)).length := by rw [padL_len]; omega
  refine ⟨hl, gt_ext (by rw [padL_len, padL_len]; omega) fun i hi => ?_⟩
  rw [gt_pad, gt_pad]
  simp only [turnL, Bool.false_eq_true, ↓reduceIte, List.append_nil]
  rw [gt_set' hkl]
  simp only [gt_pad]
  split
  · rename_i e; rw [e]
  · rfl
theorem Rl.crash {B : Nat} {e1 e2 : Fs} {ws : List Wk} {w : List Bs} {ps : List Op} (h : Rl B e1 e2 ws w ps) (done cut : Int) :
    Rl B (crF e1 ws (restN done (ps.length + 1 : Nat)) cut ps.length) (crF e1 ws (restN done (ps.length + 1 : Nat)) cut ps.length) [] (crL w ps done cut) [] ∧
    ∀ i, i < ps.length → FsOk (crF e1 ws (restN done (ps.length + 1 : Nat)) cut i) B := by
  have hp := pick_in (x := done) (n := ((ps.length + 1 : Nat) : Int)) (by omega)
  rw [rest_pick (by omega)]
  have hcl : crL w ps done cut = crL w ps done cut := rfl
  conv at hcl => rhs; unfold crL
  rw [show ((ps.length : Int) + 1) = ((ps.length + 1 : Nat) : Int) by omega] at hcl
  obtain ⟨c, hc⟩ := Int.eq_ofNat_of_zero_le hp.1
  rw [hc] at hp hcl ⊢
  rw [show ((c : Int)).toNat = c by omega] at hcl
  have key : ∀ i, i ≤ ps.length → ∃ w', w'.length ≤ 5 ∧ totW w' ≤ B ∧ FW 5 B (crF e1 ws c cut i) (padL w' 5) ∧ (c < i → w' = crL w ps done cut) ∧ (i ≤ c → w' = nowL w (ps.take i)) := by
    intro i
    induction i with
    | zero =>
      intro _
      exact ⟨w, h.wl, by have := h.tot; omega, h.f1, fun h => by omega, fun _ => rfl⟩
    | succ i ih =>
      intro hi
      obtain ⟨w', a1, a2, a3, a4, a5⟩ := ih (by omega)
      have tn : ∀ j, totW (nowL w (ps.take j)) ≤ B := fun j => by
        have := totW_now (w := w) (ps := ps.take j)
        have := totP_take ps j
        have := h.tot
        omega
      by_cases hic : i < c
      · obtain ⟨k1, k2⟩ := h.pre c cut (i + 1) hi (by omega)
        exact ⟨_, k2, tn _, k1, fun h => by omega, fun _ => rfl⟩
      · by_cases hie : i = c
        · subst hie
          have e5 := a5 (Nat.le_refl _)
          subst e5
          have ho := h.ops _ (gt_memR (show i < ps.length by omega))
          have hst : crF e1 ws i cut (i + 1) = if (gt ps i).b ≠ [] ∧ (gt ps i).b.take (pick cut ((gt ps i).b.length + 1 : Nat)).toNat ≠ [] then fDo (crF e1 ws i cut i) (gt ps i).k ((gt ps i).b.take (pick cut ((gt ps i).b.length + 1 : Nat)).toNat) else crF e1 ws i cut i := by
            rw [crF, stepC, if_neg (by omega), h.wsE, gt_map (by omega)]
            simp only [opW, true_and]
            rw [rest_pick (by omega)]
          rw [hst]
          cases hr : (gt ps i).rm with
          | true =>
            rw [if_neg (by rw [hr]; simp)] at hcl
            have hb := ho.2.2.1 hr
            rw [if_neg (by rw [hb]; simp)]
            exact ⟨_, a1, a2, a3, fun _ => hcl.symm, fun h => by omega⟩
          | false =>
            rw [if_pos ⟨by omega, hr⟩, show (((gt ps i).b.length : Int) + 1) = (((gt ps i).b.length + 1 : Nat) : Int) by omega] at hcl
            have ht : ((gt ps i).b.take (pick cut (((gt ps i).b.length + 1 : Nat) : Int)).toNat).length ≤ (gt ps i).b.length := by rw [List.length_take]; omega
            generalize (gt ps i).b.take (pick cut (((gt ps i).b.length + 1 : Nat) : Int)).toNat = t at hcl ht ⊢
            have hb : (gt ps i).b ≠ [] := fun e => by have := ho.2.2.2 e; rw [hr] at this; cases this
            have htw : totW (crL w ps done cut) ≤ B := by
              have h1 := totW_turn (w := nowL w (ps.take i)) (o := ⟨(gt ps i).k, false, t⟩)
              have h2 := totW_now (w := w) (ps := ps.take i)
              have h3 := totP_take ps (i + 1)
              have h4 : totP (ps.take (i + 1)) = totP (ps.take i) + (gt ps i).b.length := by
                rw [List.take_add_one, List.getElem?_eq_getElem (show i < ps.length by omega), gt_eq (show i < ps.length by omega)]; simp only [totP, List.map_append, List.sum_append, Option.toList_some, List.map_cons, List.map_nil, List.sum_cons, List.sum_nil, Nat.add_zero]
              have h5 := h.tot
              rw [hcl]
              dsimp only at h1
              omega
            by_cases ht0 : t = []
            · subst ht0
              obtain ⟨n1, n2⟩ := turn_none (w := nowL w (ps.take i)) ⟨ho.1, ho.2.1⟩ a1
              rw [if_neg (by simp)]
              exact ⟨crL w ps done cut, by rw [hcl]; exact n1, htw, by rw [hcl, n2]; exact a3, fun _ => rfl, fun h => by omega⟩
            · rw [if_pos ⟨hb, ht0⟩]
              have ho2 : OpIn ⟨(gt ps i).k, false, t⟩ := ⟨ho.1, ho.2.1, by simp [ht0]⟩
              have := FW.turn a1 a3 ho2 (Nat.le_refl _)
              rw [← hcl] at this
              exact ⟨crL w ps done cut, by rw [hcl]; exact turn5_len ho2 a1, htw, this.re htw, fun _ => rfl, fun h => by omega⟩
        · have hst : crF e1 ws c cut (i + 1) = crF e1 ws c cut i := by
            rw [crF, stepC, if_neg (by omega), if_neg (fun h => by have := h.1; omega)]
          rw [hst]
          exact ⟨w', a1, a2, a3, fun _ => a4 (by omega), fun h => by omega⟩
  refine ⟨?_, fun i hi => by obtain ⟨w', _, _, a3, _⟩ := key i (by omega); exact a3.ok⟩
  obtain ⟨w', a1, a2, a3, a4, a5⟩ := key ps.length (Nat.le_refl _)
  have e : w' = crL w ps done cut := by
    by_cases hcn : c < ps.length
    · exact a4 hcn
    · rw [a5 (by omega), hcl, if_neg (by omega), List.take_of_length_le (Nat.le_refl _), List.take_of_length_le (by omega)]
  subst e
  exact ⟨a1, fun o ho => (by cases ho), rfl, a3, a3, by simpa [totP] using a2⟩
/-- What is read. -/
theorem Rl.read {B : Nat} {e1 e2 : Fs} {ws : List Wk} {w : List Bs} {ps : List Op} (h : Rl B e1 e2 ws w ps) (k : Int) : (fGet e2 k).getD [] = rdL w ps false k := by
  have hl := now_len h.wl h.ops
  by_cases hk : 0 ≤ k ∧ k < 5
  · have h1 := h.f2.get k.toNat (by omega)
    rw [show ((k.toNat : Nat) : Int) = k by omega, gt_pad] at h1
    rw [h1, opt_getD, rdL, if_pos ⟨rfl, hk.1⟩]
    by_cases hkl : k.toNat < (nowL w ps).length
    · rw [gt_eq hkl, List.getD, List.getElem?_eq_getElem hkl]; rfl
    · rw [gt_out (by omega), List.getD, List.getElem?_eq_none (by omega)]; rfl
  · have h1 : fGet e2 k = none := get_none.2 fun hx => by have := h.f2.keys k hx; omega
    rw [h1, rdL]
    split
    · rw [List.getD, List.getElem?_eq_none (by omega)]
    · rfl
theorem flF_mem : ∀ {l : List Bs} {k : Nat} {x : Int}, x ∈ flF k l ↔ ∃ i, i < l.length ∧ x = (k + i : Nat) ∧ gt l i ≠ []
  | [], k, x => by simp [flF]
  | b :: l, k, x => by
    have ih := flF_mem (l := l) (k := k + 1) (x := x)
    have e : ∀ j, gt (b :: l) (j + 1) = gt l j := fun j => rfl
    have e0 : gt (b :: l) 0 = b := rfl
    have h2 : (∃ i, i < (b :: l).length ∧ x = (k + i : Nat) ∧ gt (b :: l) i ≠ []) ↔ (x = (k : Nat) ∧ b ≠ []) ∨ ∃ i, i < l.length ∧ x = (k + 1 + i : Nat) ∧ gt l i ≠ [] := by
      constructor
      · rintro ⟨i, h1, h2, h3⟩
        cases i with
        | zero => exact .inl ⟨by simpa using h2, by rw [e0] at h3; exact h3⟩
        | succ i => exact .inr ⟨i, by simpa using h1, by rw [h2]; congr 1; omega, by rw [e] at h3; exact h3⟩
      · rintro (⟨h1, h2⟩ | ⟨i, h1, h2, h3⟩)
        · exact ⟨0, by simp, by simpa using h1, by rw [e0]; exact h2⟩
        · exact ⟨i + 1, by simpa using h1, by rw [h2]; congr 1; omega, by rw [e]; exact h3⟩
    rw [h2, flF]
    split
    · rename_i hb
      rw [ih]
      exact ⟨.inr, fun h => h.elim (fun h => absurd hb h.2) id⟩
    · rename_i hb
      rw [List.mem_cons, ih]
      constructor
      · rintro (h | h)
        · exact .inl ⟨h, hb⟩
        · exact .inr h
      · rintro (h | h)
        · exact .inl h.1
        · exact .inr h
theorem flF_pw : ∀ (l : List Bs) (k : Nat), (flF k l).Pairwise (· < ·)
  | [], _ => .nil
  | b :: l, k => by
    rw [flF]
    split
    · exact flF_pw l (k + 1)
    · refine List.pairwise_cons.2 ⟨fun x hx => ?_, flF_pw l (k + 1)⟩
      obtain ⟨i, _, rfl, _⟩ := flF_mem.1 hx
      omega
/-- Which files are there. -/
theorem Rl.files {B : Nat} {e1 e2 : Fs} {ws : List Wk} {w : List Bs} {ps : List Op} (h : Rl B e1 e2 ws w ps) : sortL (e2.map (·.1)) = flD w ps false := by
  have hl := now_len h.wl h.ops
  rw [h.f2.files, flD, if_neg (by simp)]
  refine pw_ext ?_ (flF_pw _ _) fun x => ?_
  · rw [flL, List.pairwise_map]
    exact (upTo_pw 5).imp fun h => by omega
  · rw [flF_mem]
    simp only [flL, upTo, List.mem_map, List.mem_filter, List.mem_range]
    constructor
    · rintro ⟨i, ⟨h1, h2⟩, rfl⟩
      rw [gt_pad] at h2
      have hne : gt (nowL w ps) i ≠ [] := fun e => by rw [e] at h2; simp at h2
      refine ⟨i, ?_, by simp, hne⟩
      exact Classical.byContradiction fun hc => hne (gt_out (by omega))
    · rintro ⟨i, h1, rfl, h3⟩
      refine ⟨i, ⟨by omega, ?_⟩, by simp⟩
      rw [gt_pad]
      cases hx : gt (nowL w ps) i with
      | nil => exact absurd hx h3
      | cons a t => rfl
end Go.Proofs.Ytjbkckhpoicaeaa.Mir

/- What is told by hand in the runs of the disk's laws. -/
namespace Go.Proofs.Ytjbkckhpoicaeaa.Mir
open Go Go.RowKit

def extDk : Ext := fun f => match Nat.beq f 52 with
  | true => some (sortedG 68 3 sortI)
  | false => match Nat.beq f 51 with
    | true => some cloneG
    | false => none
theorem extDk_ok : ∀ f g, extDk f = some g → Sound Try.prog f g := by
  intro f g h
  unfold extDk at h
  split at h
  · rename_i hf
    obtain rfl := Nat.eq_of_beq_eq_true hf
    cases h
    exact sortedI_ok
  · split at h
    · rename_i hf
      obtain rfl := Nat.eq_of_beq_eq_true hf
      cases h
      exact clone_ok
    · cases h
end Go.Proofs.Ytjbkckhpoicaeaa.Mir

/- Chapter 5's example. -/
namespace Go.Proofs.Ytjbkckhpoicaeaa.Mir
open Go Go.RowKit

theorem diskEx_run : isTrue (runF Try.prog extDk 60 15 [] []) = true := by kernel_rfl
theorem c_disk_known : Con Try.prog 15 [] [] fun r H' => r = D.bool true ∧ H' = [] :=
  (Con.run good extDk_ok (has_of (by kernel_rfl)) (isTrue_eq (by rw [← runF_eq]; exact diskEx_run))).mono fun _ _ h => h
theorem hd0 : deadN' (-1) false = false := rfl
theorem hf0 : fuseN (-1) false = -1 := rfl
theorem hw0 (k : Int) : worksN (-1) false k = k + 1 := rfl
end Go.Proofs.Ytjbkckhpoicaeaa.Mir

/- DiskPlays: what is left of the contracts: numbers below 0, a dead disk's Files, any Fuse, Pending. -/
namespace Go.Proofs.Ytjbkckhpoicaeaa.Mir
open Go Go.RowKit
set_option linter.unusedVariables false
set_option linter.unusedSimpArgs false
set_option maxHeartbeats 2000000

theorem c_disk_FuseG (e1 e2 : Fs) (n : Nat) (ws : List Wk) (fuse : Int) (dead : Bool) (works x : Int) :
    Con Try.prog 26 [.pt 0 0, D.int x] (dkR e1 e2 n ws fuse dead works) fun r H' => r = .tp [] ∧ H' = dkR e1 e2 n ws (max x (-1)) dead works := by
  refine Con.walk good fn_disk_Fuse (by simp) ?_
  unfold s_disk_Fuse
  simp only [argsE, List.length_cons, List.length_nil, Nat.reduceAdd]
  rcases n with _ | n
  · repeat' (first | (with_reducible first | refine Wa.h ?_ | refine Ws.h ?_ | refine Wb.h fun K hK => ?_ | (refine hK _ ?_; clear hK K)) | ((with_reducible refine kQ ?_ ?_); kernel_rfl) | ((with_reducible refine k1 ?_ ?_); rfl) | ((with_reducible refine k0 ?_ ?_); rfl) | ((with_reducible apply kB) <;> first | rfl | intro h) | ((with_reducible refine kM ?_ ?_); rfl) | (with_reducible refine Wt.h (fun h => ?_) (fun h => ?_)) <;> try (exfalso; omega) | (with_reducible refine Wu.h (fun h => ?_) (fun h => ?_)) <;> try simp only [h] | ((fail_if_success with_reducible refine Wz.h ?_); simp (disch := omega) only [↓LD, LU, LS, LT, loadA_rf, seval, dkR, dkB, dkP]) | ((with_reducible refine And.intro ?_ ?_); omega) | ((fail_if_success with_reducible refine Wz.h ?_); simp only [D.int, D.bool]))
    exact end0 ⟨rfl, rfl⟩
  · repeat' (first | (with_reducible first | refine Wa.h ?_ | refine Ws.h ?_ | refine Wb.h fun K hK => ?_ | (refine hK _ ?_; clear hK K)) | ((with_reducible refine kQ ?_ ?_); kernel_rfl) | ((with_reducible refine k1 ?_ ?_); rfl) | ((with_reducible refine k0 ?_ ?_); rfl) | ((with_reducible apply kB) <;> first | rfl | intro h) | ((with_reducible refine kM ?_ ?_); rfl) | (with_reducible refine Wt.h (fun h => ?_) (fun h => ?_)) <;> try (exfalso; omega) | (with_reducible refine Wu.h (fun h => ?_) (fun h => ?_)) <;> try simp only [h] | ((fail_if_success with_reducible refine Wz.h ?_); simp (disch := omega) only [↓LD, LU, LS, LT, loadA_rf, seval, dkR, dkB, dkP]) | ((with_reducible refine And.intro ?_ ?_); omega) | ((fail_if_success with_reducible refine Wz.h ?_); simp only [D.int, D.bool]))
    exact end0 ⟨rfl, rfl⟩
theorem c_disk_Pend (e1 e2 : Fs) (n : Nat) (ws : List Wk) (fuse : Int) (dead : Bool) (works : Int) :
    Con Try.prog 31 [.pt 0 0] (dkR e1 e2 n ws fuse dead works) fun r H' => r = D.int n ∧ H' = dkR e1 e2 n ws fuse dead works := by
  refine Con.walk good fn_disk_Pending (by simp) ?_
  unfold s_disk_Pending
  simp only [argsE, List.length_cons, List.length_nil, Nat.reduceAdd]
  rcases n with _ | n
  · repeat' (first | (with_reducible first | refine Wa.h ?_ | refine Ws.h ?_ | refine Wb.h fun K hK => ?_ | (refine hK _ ?_; clear hK K)) | ((with_reducible refine kQ ?_ ?_); kernel_rfl) | ((with_reducible refine k1 ?_ ?_); rfl) | ((with_reducible refine k0 ?_ ?_); rfl) | ((with_reducible apply kB) <;> first | rfl | intro h) | ((with_reducible refine kM ?_ ?_); rfl) | (with_reducible refine Wt.h (fun h => ?_) (fun h => ?_)) <;> try (exfalso; omega) | (with_reducible refine Wu.h (fun h => ?_) (fun h => ?_)) <;> try simp only [h] | ((fail_if_success with_reducible refine Wz.h ?_); simp (disch := omega) only [↓LD, LU, LS, LT, loadA_rf, seval, dkR, dkB, dkP]) | ((with_reducible refine And.intro ?_ ?_); omega) | ((fail_if_success with_reducible refine Wz.h ?_); simp only [D.int, D.bool]))
    exact endA rfl rfl ⟨rfl, rfl⟩
  · repeat' (first | (with_reducible first | refine Wa.h ?_ | refine Ws.h ?_ | refine Wb.h fun K hK => ?_ | (refine hK _ ?_; clear hK K)) | ((with_reducible refine kQ ?_ ?_); kernel_rfl) | ((with_reducible refine k1 ?_ ?_); rfl) | ((with_reducible refine k0 ?_ ?_); rfl) | ((with_reducible apply kB) <;> first | rfl | intro h) | ((with_reducible refine kM ?_ ?_); rfl) | (with_reducible refine Wt.h (fun h => ?_) (fun h => ?_)) <;> try (exfalso; omega) | (with_reducible refine Wu.h (fun h => ?_) (fun h => ?_)) <;> try simp only [h] | ((fail_if_success with_reducible refine Wz.h ?_); simp (disch := omega) only [↓LD, LU, LS, LT, loadA_rf, seval, dkR, dkB, dkP]) | ((with_reducible refine And.intro ?_ ?_); omega) | ((fail_if_success with_reducible refine Wz.h ?_); simp only [D.int, D.bool]))
    exact endA rfl rfl ⟨rfl, rfl⟩
theorem c_disk_AppendN (H : List Row) (k : Int) (hk : k < 0) (x : F) : Con Try.prog 17 [.pt 0 0, D.int k, .f x] H fun r H' => r = D.int 1 ∧ H' = H := by
  refine Con.walk good fn_disk_Append (by simp) ?_
  unfold s_disk_Append
  simp only [argsE, List.length_cons, List.length_nil, Nat.reduceAdd]
  repeat' (first | (with_reducible first | refine Wa.h ?_ | refine Ws.h ?_ | refine Wb.h fun K hK => ?_ | (refine hK _ ?_; clear hK K)) | ((with_reducible refine kQ ?_ ?_); kernel_rfl) | ((with_reducible refine k1 ?_ ?_); rfl) | ((with_reducible refine k0 ?_ ?_); rfl) | ((with_reducible apply kB) <;> first | rfl | intro h) | ((with_reducible refine kM ?_ ?_); rfl) | (with_reducible refine Wt.h (fun h => ?_) (fun h => ?_)) <;> try (exfalso; omega) | (with_reducible refine Wu.h (fun h => ?_) (fun h => ?_)) <;> try simp only [h] | ((fail_if_success with_reducible refine Wz.h ?_); simp (disch := omega) only [↓LD, LU, LS, LT, loadA_rf, seval]) | ((with_reducible refine And.intro ?_ ?_); omega) | ((fail_if_success with_reducible refine Wz.h ?_); simp only [D.int, D.bool]))
  exact endA rfl rfl ⟨rfl, rfl⟩
theorem c_disk_RemoveN (H : List Row) (k : Int) (hk : k < 0) : Con Try.prog 16 [.pt 0 0, D.int k] H fun r H' => r = D.int 1 ∧ H' = H := by
  refine Con.walk good fn_disk_Remove (by simp) ?_
  unfold s_disk_Remove
  simp only [argsE, List.length_cons, List.length_nil, Nat.reduceAdd]
  repeat' (first | (with_reducible first | refine Wa.h ?_ | refine Ws.h ?_ | refine Wb.h fun K hK => ?_ | (refine hK _ ?_; clear hK K)) | ((with_reducible refine kQ ?_ ?_); kernel_rfl) | ((with_reducible refine k1 ?_ ?_); rfl) | ((with_reducible refine k0 ?_ ?_); rfl) | ((with_reducible apply kB) <;> first | rfl | intro h) | ((with_reducible refine kM ?_ ?_); rfl) | (with_reducible refine Wt.h (fun h => ?_) (fun h => ?_)) <;> try (exfalso; omega) | (with_reducible refine Wu.h (fun h => ?_) (fun h => ?_)) <;> try simp only [h] | ((fail_if_success with_reducible refine Wz.h ?_); simp (disch := omega) only [↓LD, LU, LS, LT, loadA_rf, seval]) | ((with_reducible refine And.intro ?_ ?_); omega) | ((fail_if_success with_reducible refine Wz.h ?_); simp only [D.int, D.bool]))
  exact endA rfl rfl ⟨rfl, rfl⟩
theorem c_rd_AppendN (H : List Row) (k : Int) (hk : k < 0) (x : F) : Con Try.prog 28 [.pt 0 0, D.int k, .f x] H fun r H' => r = D.int 1 ∧ H' = H := by
  refine Con.walk good fn_rd_Append (by simp) ?_
  unfold s_rd_Append
  simp only [argsE, List.length_cons, List.length_nil, Nat.reduceAdd]
  repeat' (first | (with_reducible first | refine Wa.h ?_ | refine Ws.h ?_ | refine Wb.h fun K hK => ?_ | (refine hK _ ?_; clear hK K)) | ((with_reducible refine kQ ?_ ?_); kernel_rfl) | ((with_reducible refine k1 ?_ ?_); rfl) | ((with_reducible refine k0 ?_ ?_); rfl) | ((with_reducible apply kB) <;> first | rfl | intro h) | ((with_reducible refine kM ?_ ?_); rfl) | (with_reducible refine Wt.h (fun h => ?_) (fun h => ?_)) <;> try (exfalso; omega) | (with_reducible refine Wu.h (fun h => ?_) (fun h => ?_)) <;> try simp only [h] | ((fail_if_success with_reducible refine Wz.h ?_); simp (disch := omega) only [↓LD, LU, LS, LT, loadA_rf, seval]) | ((with_reducible refine And.intro ?_ ?_); omega) | ((fail_if_success with_reducible refine Wz.h ?_); simp only [D.int, D.bool]))
  exact endA rfl rfl ⟨rfl, rfl⟩
theorem c_rd_RemoveN (H : List Row) (k : Int) (hk : k < 0) : Con Try.prog 22 [.pt 0 0, D.int k] H fun r H' => r = D.int 1 ∧ H' = H := by
  refine Con.walk good fn_rd_Remove (by simp) ?_
  unfold s_rd_Remove
  simp only [argsE, List.length_cons, List.length_nil, Nat.reduceAdd]
  repeat' (first | (with_reducible first | refine Wa.h ?_ | refine Ws.h ?_ | refine Wb.h fun K hK => ?_ | (refine hK _ ?_; clear hK K)) | ((with_reducible refine kQ ?_ ?_); kernel_rfl) | ((with_reducible refine k1 ?_ ?_); rfl) | ((with_reducible refine k0 ?_ ?_); rfl) | ((with_reducible apply kB) <;> first | rfl | intro h) | ((with_reducible refine kM ?_ ?_); rfl) | (with_reducible refine Wt.h (fun h => ?_) (fun h => ?_)) <;> try (exfalso; omega) | (with_reducible refine Wu.h (fun h => ?_) (fun h => ?_)) <;> try simp only [h] | ((fail_if_success with_reducible refine Wz.h ?_); simp (disch := omega) only [↓LD, LU, LS, LT, loadA_rf, seval]) | ((with_reducible refine And.intro ?_ ?_); omega) | ((fail_if_success with_reducible refine Wz.h ?_); simp only [D.int, D.bool]))
  exact endA rfl rfl ⟨rfl, rfl⟩
theorem c_disk_FilesD (e1 e2 : Fs) (n : Nat) (ws : List Wk) (fuse : Int) (works : Int) :
    Con Try.prog 19 [.pt 0 0] (dkR e1 e2 n ws fuse true works) fun r H' => r = .f nilF ∧ H' = dkR e1 e2 n ws fuse true works := by
  refine Con.walk good fn_disk_Files (by simp) ?_
  unfold s_disk_Files
  simp only [argsE, List.length_cons, List.length_nil, Nat.reduceAdd]
  rcases n with _ | n
  · repeat' (first | (with_reducible first | refine Wa.h ?_ | refine Ws.h ?_ | refine Wb.h fun K hK => ?_ | (refine hK _ ?_; clear hK K)) | ((with_reducible refine kQ ?_ ?_); kernel_rfl) | ((with_reducible refine k1 ?_ ?_); rfl) | ((with_reducible refine k0 ?_ ?_); rfl) | ((with_reducible apply kB) <;> first | rfl | intro h) | ((with_reducible refine kM ?_ ?_); rfl) | (with_reducible refine Wt.h (fun h => ?_) (fun h => ?_)) <;> try (exfalso; omega) | (with_reducible refine Wu.h (fun h => ?_) (fun h => ?_)) <;> try simp only [h] | ((fail_if_success with_reducible refine Wz.h ?_); simp (disch := omega) only [↓LD, LU, LS, LT, loadA_rf, seval, dkR, dkB, dkP]) | ((with_reducible refine And.intro ?_ ?_); omega) | ((fail_if_success with_reducible refine Wz.h ?_); simp only [D.int, D.bool]))
    exact endA rfl rfl ⟨rfl, rfl⟩
  · repeat' (first | (with_reducible first | refine Wa.h ?_ | refine Ws.h ?_ | refine Wb.h fun K hK => ?_ | (refine hK _ ?_; clear hK K)) | ((with_reducible refine kQ ?_ ?_); kernel_rfl) | ((with_reducible refine k1 ?_ ?_); rfl) | ((with_reducible refine k0 ?_ ?_); rfl) | ((with_reducible apply kB) <;> first | rfl | intro h) | ((with_reducible refine kM ?_ ?_); rfl) | (with_reducible refine Wt.h (fun h => ?_) (fun h => ?_)) <;> try (exfalso; omega) | (with_reducible refine Wu.h (fun h => ?_) (fun h => ?_)) <;> try simp only [h] | ((fail_if_success with_reducible refine Wz.h ?_); simp (disch := omega) only [↓LD, LU, LS, LT, loadA_rf, seval, dkR, dkB, dkP]) | ((with_reducible refine And.intro ?_ ?_); omega) | ((fail_if_success with_reducible refine Wz.h ?_); simp only [D.int, D.bool]))
    exact endA rfl rfl ⟨rfl, rfl⟩
end Go.Proofs.Ytjbkckhpoicaeaa.Mir

/- DiskPlays: what is read, in memory that is its owner's. -/
namespace Go.Proofs.Ytjbkckhpoicaeaa.Mir
open Go Go.RowKit
set_option linter.unusedVariables false
set_option linter.unusedSimpArgs false
set_option maxHeartbeats 2000000

def rdP (n m : Nat) : D := match n with
  | 0 => .sl 3 0 m
  | _ + 1 => .sl 4 0 m
set_option maxRecDepth 100000 in
theorem c_disk_ReadL (e1 e2 : Fs) (n : Nat) (ws : List Wk) (fuse : Int) (works : Int) (B : Nat) (he : FsOk e2 B) (hB : B ≤ 140737488355328) (k : Int) {y : Bs} (hg : fGet e2 k = some y) :
    Con Try.prog 20 [.pt 0 0, D.int k] (dkR e1 e2 n ws fuse false works) fun r H' => r = rdP n y.length ∧ H' = dkR e1 e2 n ws fuse false works ++ [.data 5 (y.map uF)] := by
  refine Con.walk good fn_disk_Read (by simp) ?_
  unfold s_disk_Read
  simp only [argsE, List.length_cons, List.length_nil, Nat.reduceAdd]
  obtain ⟨h1, h2⟩ := he.get hg
  obtain ⟨q, hq⟩ : ∃ q, y.length = q + 1 := by
    cases y with
    | nil => exact absurd rfl h1
    | cons z y => exact ⟨y.length, rfl⟩
  rw [hq]
  rcases n with _ | n
  · repeat' (first | (with_reducible first | refine Wa.h ?_ | refine Ws.h ?_ | refine Wb.h fun K hK => ?_ | (refine hK _ ?_; clear hK K)) | ((with_reducible refine kQ ?_ ?_); kernel_rfl) | ((with_reducible refine k1 ?_ ?_); rfl) | ((with_reducible refine k0 ?_ ?_); rfl) | ((with_reducible apply kB) <;> first | rfl | intro h) | ((with_reducible refine kM ?_ ?_); rfl) | (with_reducible refine Wt.h (fun h => ?_) (fun h => ?_)) <;> try (exfalso; omega) | (with_reducible refine Wu.h (fun h => ?_) (fun h => ?_)) <;> try simp only [h] | ((fail_if_success with_reducible refine Wz.h ?_); simp (disch := omega) only [↓LD, LU, LS, LT, loadA_rf, seval, dkR, dkB, dkP]) | ((with_reducible refine And.intro ?_ ?_); omega) | ((fail_if_success with_reducible refine Wz.h ?_); simp only [D.int, D.bool]))
    refine bind'_of (look_mF rfl) ?_
    rw [hg]
    repeat' (first | (with_reducible first | refine Wa.h ?_ | refine Ws.h ?_ | refine Wb.h fun K hK => ?_ | (refine hK _ ?_; clear hK K)) | ((with_reducible refine kQ ?_ ?_); kernel_rfl) | ((with_reducible refine k1 ?_ ?_); rfl) | ((with_reducible refine k0 ?_ ?_); rfl) | ((with_reducible apply kB) <;> first | rfl | intro h) | ((with_reducible refine kM ?_ ?_); rfl) | (with_reducible refine Wt.h (fun h => ?_) (fun h => ?_)) <;> try (exfalso; omega) | (with_reducible refine Wu.h (fun h => ?_) (fun h => ?_)) <;> try simp only [h] | ((fail_if_success with_reducible refine Wz.h ?_); simp (disch := omega) only [↓LD, LU, LS, LT, loadA_rf, seval, orN]) | ((with_reducible refine And.intro ?_ ?_); omega) | ((fail_if_success with_reducible refine Wz.h ?_); simp only [D.int, D.bool]))
    refine callW_emb (c_byte_Clone y q hq (by omega)) [] (by kernel_rfl) rfl rfl ?_
    rintro _ _ ⟨rfl, rfl⟩
    simp (disch := omega) only [↓LD, LU, LS, LT, loadA_rf, seval, ren, List.getElem?_nil, List.append_nil]
    repeat' (first | (with_reducible first | refine Wa.h ?_ | refine Ws.h ?_ | refine Wb.h fun K hK => ?_ | (refine hK _ ?_; clear hK K)) | ((with_reducible refine kQ ?_ ?_); kernel_rfl) | ((with_reducible refine k1 ?_ ?_); rfl) | ((with_reducible refine k0 ?_ ?_); rfl) | ((with_reducible apply kB) <;> first | rfl | intro h) | ((with_reducible refine kM ?_ ?_); rfl) | (with_reducible refine Wt.h (fun h => ?_) (fun h => ?_)) <;> try (exfalso; omega) | (with_reducible refine Wu.h (fun h => ?_) (fun h => ?_)) <;> try simp only [h] | ((fail_if_success with_reducible refine Wz.h ?_); simp (disch := omega) only [↓LD, LU, LS, LT, loadA_rf, seval, List.append_nil, ren, List.getElem?_nil]) | ((with_reducible refine And.intro ?_ ?_); omega) | ((fail_if_success with_reducible refine Wz.h ?_); simp only [D.int, D.bool]))
    exact endA rfl rfl ⟨rfl, rfl⟩
  · repeat' (first | (with_reducible first | refine Wa.h ?_ | refine Ws.h ?_ | refine Wb.h fun K hK => ?_ | (refine hK _ ?_; clear hK K)) | ((with_reducible refine kQ ?_ ?_); kernel_rfl) | ((with_reducible refine k1 ?_ ?_); rfl) | ((with_reducible refine k0 ?_ ?_); rfl) | ((with_reducible apply kB) <;> first | rfl | intro h) | ((with_reducible refine kM ?_ ?_); rfl) | (with_reducible refine Wt.h (fun h => ?_) (fun h => ?_)) <;> try (exfalso; omega) | (with_reducible refine Wu.h (fun h => ?_) (fun h => ?_)) <;> try simp only [h] | ((fail_if_success with_reducible refine Wz.h ?_); simp (disch := omega) only [↓LD, LU, LS, LT, loadA_rf, seval, dkR, dkB, dkP]) | ((with_reducible refine And.intro ?_ ?_); omega) | ((fail_if_success with_reducible refine Wz.h ?_); simp only [D.int, D.bool]))
    refine bind'_of (look_mF rfl) ?_
    rw [hg]
    repeat' (first | (with_reducible first | refine Wa.h ?_ | refine Ws.h ?_ | refine Wb.h fun K hK => ?_ | (refine hK _ ?_; clear hK K)) | ((with_reducible refine kQ ?_ ?_); kernel_rfl) | ((with_reducible refine k1 ?_ ?_); rfl) | ((with_reducible refine k0 ?_ ?_); rfl) | ((with_reducible apply kB) <;> first | rfl | intro h) | ((with_reducible refine kM ?_ ?_); rfl) | (with_reducible refine Wt.h (fun h => ?_) (fun h => ?_)) <;> try (exfalso; omega) | (with_reducible refine Wu.h (fun h => ?_) (fun h => ?_)) <;> try simp only [h] | ((fail_if_success with_reducible refine Wz.h ?_); simp (disch := omega) only [↓LD, LU, LS, LT, loadA_rf, seval, orN]) | ((with_reducible refine And.intro ?_ ?_); omega) | ((fail_if_success with_reducible refine Wz.h ?_); simp only [D.int, D.bool]))
    refine callW_emb (c_byte_Clone y q hq (by omega)) [] (by kernel_rfl) rfl rfl ?_
    rintro _ _ ⟨rfl, rfl⟩
    simp (disch := omega) only [↓LD, LU, LS, LT, loadA_rf, seval, ren, List.getElem?_nil, List.append_nil]
    repeat' (first | (with_reducible first | refine Wa.h ?_ | refine Ws.h ?_ | refine Wb.h fun K hK => ?_ | (refine hK _ ?_; clear hK K)) | ((with_reducible refine kQ ?_ ?_); kernel_rfl) | ((with_reducible refine k1 ?_ ?_); rfl) | ((with_reducible refine k0 ?_ ?_); rfl) | ((with_reducible apply kB) <;> first | rfl | intro h) | ((with_reducible refine kM ?_ ?_); rfl) | (with_reducible refine Wt.h (fun h => ?_) (fun h => ?_)) <;> try (exfalso; omega) | (with_reducible refine Wu.h (fun h => ?_) (fun h => ?_)) <;> try simp only [h] | ((fail_if_success with_reducible refine Wz.h ?_); simp (disch := omega) only [↓LD, LU, LS, LT, loadA_rf, seval, List.append_nil, ren, List.getElem?_nil]) | ((with_reducible refine And.intro ?_ ?_); omega) | ((fail_if_success with_reducible refine Wz.h ?_); simp only [D.int, D.bool]))
    exact endA rfl rfl ⟨rfl, rfl⟩
def rdD (w : List Bs) (ps : List Op) (dead : Bool) (k : Int) : D := if dead = true ∨ k < 0 ∨ ((nowL w ps).length : Int) ≤ k then .f nilF else .f (fY (rdL w ps dead k))
theorem c_rd_ReadF (w : List Bs) (ps : List Op) (fuse : Int) (dead : Bool) (works k : Int) (h : RdOk w ps) :
    Con Try.prog 33 [.pt 0 0, D.int k] [rkB w ps fuse dead works] fun r H' => r = rdD w ps dead k ∧ H' = [rkB w ps fuse dead works] := by
  have hnl := h.now.1
  cases dead with
  | true =>
    refine Con.walk good fn_rd_Read (by simp) ?_
    unfold s_rd_Read
    simp only [argsE, List.length_cons, List.length_nil, Nat.reduceAdd]
    repeat' (first | (with_reducible first | refine Wa.h ?_ | refine Ws.h ?_ | refine Wb.h fun K hK => ?_ | (refine hK _ ?_; clear hK K)) | ((with_reducible refine kQ ?_ ?_); kernel_rfl) | ((with_reducible refine k1 ?_ ?_); rfl) | ((with_reducible refine k0 ?_ ?_); rfl) | ((with_reducible apply kB) <;> first | rfl | intro h) | ((with_reducible refine kM ?_ ?_); rfl) | (with_reducible refine Wt.h (fun h => ?_) (fun h => ?_)) <;> try (exfalso; omega) | (with_reducible refine Wu.h (fun h => ?_) (fun h => ?_)) <;> try simp only [h] | ((fail_if_success with_reducible refine Wz.h ?_); simp (disch := omega) only [↓LD, LU, LS, LT, loadA_rf, seval]) | ((with_reducible refine And.intro ?_ ?_); omega) | ((fail_if_success with_reducible refine Wz.h ?_); simp only [D.int, D.bool]))
    refine callW_emb (c_rd_Now w ps fuse true works h) [0] (by kernel_rfl) rfl rfl ?_
    rintro _ _ ⟨rfl, rfl⟩
    repeat' (first | (with_reducible first | refine Wa.h ?_ | refine Ws.h ?_ | refine Wb.h fun K hK => ?_ | (refine hK _ ?_; clear hK K)) | ((with_reducible refine kQ ?_ ?_); kernel_rfl) | ((with_reducible refine k1 ?_ ?_); rfl) | ((with_reducible refine k0 ?_ ?_); rfl) | ((with_reducible apply kB) <;> first | rfl | intro h) | ((with_reducible refine kM ?_ ?_); rfl) | (with_reducible refine Wt.h (fun h => ?_) (fun h => ?_)) <;> try (exfalso; omega) | (with_reducible refine Wu.h (fun h => ?_) (fun h => ?_)) <;> try simp only [h] | ((fail_if_success with_reducible refine Wz.h ?_); simp (disch := omega) only [↓LD, LU, LS, LT, loadA_rf, seval, rkB, fK]) | ((with_reducible refine And.intro ?_ ?_); omega) | ((fail_if_success with_reducible refine Wz.h ?_); simp only [D.int, D.bool]))
    exact endA rfl rfl ⟨by rw [rdD, if_pos (.inl rfl)]; rfl, rfl⟩
  | false =>
    refine Con.walk good fn_rd_Read (by simp) ?_
    unfold s_rd_Read
    simp only [argsE, List.length_cons, List.length_nil, Nat.reduceAdd]
    repeat' (first | (with_reducible first | refine Wa.h ?_ | refine Ws.h ?_ | refine Wb.h fun K hK => ?_ | (refine hK _ ?_; clear hK K)) | ((with_reducible refine kQ ?_ ?_); kernel_rfl) | ((with_reducible refine k1 ?_ ?_); rfl) | ((with_reducible refine k0 ?_ ?_); rfl) | ((with_reducible apply kB) <;> first | rfl | intro h) | ((with_reducible refine kM ?_ ?_); rfl) | (with_reducible refine Wt.h (fun h => ?_) (fun h => ?_)) <;> try (exfalso; omega) | (with_reducible refine Wu.h (fun h => ?_) (fun h => ?_)) <;> try simp only [h] | ((fail_if_success with_reducible refine Wz.h ?_); simp (disch := omega) only [↓LD, LU, LS, LT, loadA_rf, seval]) | ((with_reducible refine And.intro ?_ ?_); omega) | ((fail_if_success with_reducible refine Wz.h ?_); simp only [D.int, D.bool]))
    refine callW_emb (c_rd_Now w ps fuse false works h) [0] (by kernel_rfl) rfl rfl ?_
    rintro _ _ ⟨rfl, rfl⟩
    repeat' (first | (with_reducible first | refine Wa.h ?_ | refine Ws.h ?_ | refine Wb.h fun K hK => ?_ | (refine hK _ ?_; clear hK K)) | ((with_reducible refine kQ ?_ ?_); kernel_rfl) | ((with_reducible refine k1 ?_ ?_); rfl) | ((with_reducible refine k0 ?_ ?_); rfl) | ((with_reducible apply kB) <;> first | rfl | intro h) | ((with_reducible refine kM ?_ ?_); rfl) | (with_reducible refine Wt.h (fun h => ?_) (fun h => ?_)) <;> try (exfalso; omega) | (with_reducible refine Wu.h (fun h => ?_) (fun h => ?_)) <;> try simp only [h] | ((fail_if_success with_reducible refine Wz.h ?_); simp (disch := omega) only [↓LD, LU, LS, LT, loadA_rf, seval, rkB, fK]) | ((with_reducible refine And.intro ?_ ?_); omega) | ((fail_if_success with_reducible refine Wz.h ?_); simp only [D.int, D.bool]))
    · exact endA rfl rfl ⟨by rw [rdD, if_pos (.inr (.inl (by omega)))]; rfl, rfl⟩
    · exact endA rfl rfl ⟨by rw [rdD, if_pos (.inr (.inr (by omega)))]; rfl, rfl⟩
    · refine endA rfl rfl ⟨?_, rfl⟩
      rw [rdD, if_neg (by simp; omega), rdL, if_pos ⟨rfl, by omega⟩, List.getD, List.getElem?_eq_getElem (show k.toNat < (nowL w ps).length by omega), ← gt_eq]; rfl
end Go.Proofs.Ytjbkckhpoicaeaa.Mir
