/- slices.Sorted(maps.Keys(m)) told by its contract: keys that are ints. -/
import Derived.Test.YtaclakglglicdaaMirSortG
import Derived.Ground.GgzProg
import Derived.Ground.SlgmProg
namespace Go.Proofs
open Go.RowKit Go.Maps Go.Sort Go.Shelf
def Ytaclakglglicdaa.keysL_ren : Go.Shelf.Ren := ⟨fun | 7 => 62 | 10 => 94 | n => n, fun | 23 => 97 | 26 => 3 | 3 => 26 | 28 => 107 | 0 => 0 | 27 => 106 | 33 => 118 | 4 => 4 | n => n, fun | n => n⟩
theorem Ytaclakglglicdaa.keysL : Go.Proofs.SlLaysZI.n7 Try.prog Ytaclakglglicdaa.keysL_ren := {
  mixed := by kernel_rfl
  f7 := ⟨Try.f62.name, by decide, Try.func62.trans (congrArg some (by kernel_rfl))⟩
  f10 := ⟨Try.f94.name, by decide, Try.func94.trans (congrArg some (by kernel_rfl))⟩
  t0 := Try.underlying0
  a0 := Try.isAgg0
  z0 := Try.sizeOf0
  v0 := Try.zeroValue0
  t4 := Try.underlying4
  a4 := Try.isAgg4
  z4 := Try.sizeOf4
  v4 := Try.zeroValue4
  t23 := Try.underlying97
  a23 := Try.isAgg97
  z23 := Try.sizeOf97
  v23 := Try.zeroValue97
  t26 := Try.underlying3
  a26 := Try.isAgg3
  z26 := Try.sizeOf3
  v26 := Try.zeroValue3
  t27 := Try.underlying106
  a27 := Try.isAgg106
  z27 := Try.sizeOf106
  v27 := Try.zeroValue106
  t28 := Try.underlying107
  a28 := Try.isAgg107
  z28 := Try.sizeOf107
  v28 := Try.zeroValue107
  t33 := Try.underlying118
  a33 := Try.isAgg118
  z33 := Try.sizeOf118
  v33 := Try.zeroValue118 }

def Ytaclakglglicdaa.sortedL_ren : Go.Shelf.Ren := ⟨fun | 6 => 61 | 8 => 93 | 9 => 72 | 11 => 125 | 13 => 100 | 12 => 99 | 23 => 136 | 24 => 137 | 14 => 127 | 15 => 128 | 16 => 129 | 17 => 130 | 18 => 131 | 19 => 132 | 20 => 133 | 21 => 134 | 22 => 135 | 25 => 144 | 26 => 145 | 27 => 146 | 28 => 147 | 29 => 148 | 30 => 149 | 31 => 161 | n => n, fun | 26 => 3 | 28 => 107 | 24 => 22 | 0 => 0 | 3 => 3 | 37 => 143 | 48 => 168 | 50 => 170 | 4 => 4 | 40 => 160 | 39 => 159 | 45 => 165 | 5 => 5 | 9 => 9 | 51 => 176 | 55 => 180 | 57 => 190 | 58 => 191 | 33 => 118 | n => n, fun | n => n⟩
theorem Ytaclakglglicdaa.sortedL : Go.Proofs.SlLaysZI.n6 Try.prog Ytaclakglglicdaa.sortedL_ren := {
  mixed := by kernel_rfl
  f6 := ⟨Try.f61.name, by decide, Try.func61.trans (congrArg some (by kernel_rfl))⟩
  f8 := ⟨Try.f93.name, by decide, Try.func93.trans (congrArg some (by kernel_rfl))⟩
  f11 := ⟨Try.f125.name, by decide, Try.func125.trans (congrArg some (by kernel_rfl))⟩
  t0 := Try.underlying0
  a0 := Try.isAgg0
  z0 := Try.sizeOf0
  v0 := Try.zeroValue0
  t24 := Try.underlying22
  a24 := Try.isAgg22
  z24 := Try.sizeOf22
  v24 := Try.zeroValue22
  t26 := Try.underlying3
  a26 := Try.isAgg3
  z26 := Try.sizeOf3
  v26 := Try.zeroValue3
  t28 := Try.underlying107
  a28 := Try.isAgg107
  z28 := Try.sizeOf107
  v28 := Try.zeroValue107
  i26 := by kernel_rfl }

def Ytaclakglglicdaa.sortL_ren : Go.Shelf.Ren := ⟨fun | 5 => 72 | 8 => 100 | 7 => 99 | 19 => 136 | 20 => 137 | 10 => 127 | 11 => 128 | 12 => 129 | 13 => 130 | 14 => 131 | 15 => 132 | 16 => 133 | 17 => 134 | 18 => 135 | 30 => 144 | 31 => 145 | 32 => 146 | 33 => 147 | 34 => 148 | 35 => 149 | 40 => 161 | n => n, fun | 23 => 22 | 25 => 3 | 3 => 3 | 32 => 143 | 22 => 22 | 0 => 0 | 44 => 168 | 46 => 170 | 4 => 4 | 36 => 160 | 35 => 159 | 41 => 165 | 5 => 5 | 9 => 9 | 53 => 176 | 57 => 180 | 63 => 190 | 64 => 191 | n => n, fun | n => n⟩
theorem Ytaclakglglicdaa.sortL : Go.Proofs.SlLaysM.n5 Try.prog Ytaclakglglicdaa.sortL_ren := {
  mixed := by kernel_rfl
  f5 := ⟨Try.f72.name, by decide, Try.func72.trans (congrArg some (by kernel_rfl))⟩
  f7 := ⟨Try.f99.name, by decide, Try.func99.trans (congrArg some (by kernel_rfl))⟩
  f8 := Try.func100.trans (congrArg some (by kernel_rfl))
  f10 := ⟨Try.f127.name, by decide, Try.func127.trans (congrArg some (by kernel_rfl))⟩
  f11 := ⟨Try.f128.name, by decide, Try.func128.trans (congrArg some (by kernel_rfl))⟩
  f12 := ⟨Try.f129.name, by decide, Try.func129.trans (congrArg some (by kernel_rfl))⟩
  f13 := ⟨Try.f130.name, by decide, Try.func130.trans (congrArg some (by kernel_rfl))⟩
  f14 := ⟨Try.f131.name, by decide, Try.func131.trans (congrArg some (by kernel_rfl))⟩
  f15 := ⟨Try.f132.name, by decide, Try.func132.trans (congrArg some (by kernel_rfl))⟩
  f16 := ⟨Try.f133.name, by decide, Try.func133.trans (congrArg some (by kernel_rfl))⟩
  f17 := ⟨Try.f134.name, by decide, Try.func134.trans (congrArg some (by kernel_rfl))⟩
  f18 := ⟨Try.f135.name, by decide, Try.func135.trans (congrArg some (by kernel_rfl))⟩
  f19 := Try.func136.trans (congrArg some (by kernel_rfl))
  f20 := Try.func137.trans (congrArg some (by kernel_rfl))
  f30 := ⟨Try.f144.name, by decide, Try.func144.trans (congrArg some (by kernel_rfl))⟩
  f31 := Try.func145.trans (congrArg some (by kernel_rfl))
  f32 := Try.func146.trans (congrArg some (by kernel_rfl))
  f33 := ⟨Try.f147.name, by decide, Try.func147.trans (congrArg some (by kernel_rfl))⟩
  f34 := ⟨Try.f148.name, by decide, Try.func148.trans (congrArg some (by kernel_rfl))⟩
  f35 := ⟨Try.f149.name, by decide, Try.func149.trans (congrArg some (by kernel_rfl))⟩
  f40 := ⟨Try.f161.name, by decide, Try.func161.trans (congrArg some (by kernel_rfl))⟩
  t0 := Try.underlying0
  a0 := Try.isAgg0
  z0 := Try.sizeOf0
  v0 := Try.zeroValue0
  t3 := Try.underlying3
  a3 := Try.isAgg3
  z3 := Try.sizeOf3
  v3 := Try.zeroValue3
  t4 := Try.underlying4
  a4 := Try.isAgg4
  z4 := Try.sizeOf4
  v4 := Try.zeroValue4
  t5 := Try.underlying5
  a5 := Try.isAgg5
  z5 := Try.sizeOf5
  v5 := Try.zeroValue5
  t9 := Try.underlying9
  a9 := Try.isAgg9
  z9 := Try.sizeOf9
  v9 := Try.zeroValue9
  t22 := Try.underlying22
  a22 := Try.isAgg22
  z22 := Try.sizeOf22
  v22 := Try.zeroValue22
  t23 := Try.underlying22
  a23 := Try.isAgg22
  z23 := Try.sizeOf22
  v23 := Try.zeroValue22
  t25 := Try.underlying3
  a25 := Try.isAgg3
  z25 := Try.sizeOf3
  v25 := Try.zeroValue3
  t32 := Try.underlying143
  a32 := Try.isAgg143
  z32 := Try.sizeOf143
  v32 := Try.zeroValue143
  t35 := Try.underlying159
  a35 := Try.isAgg159
  z35 := Try.sizeOf159
  v35 := Try.zeroValue159
  t36 := Try.underlying160
  a36 := Try.isAgg160
  z36 := Try.sizeOf160
  v36 := Try.zeroValue160
  t41 := Try.underlying165
  a41 := Try.isAgg165
  z41 := Try.sizeOf165
  v41 := Try.zeroValue165
  t44 := Try.underlying168
  a44 := Try.isAgg168
  z44 := Try.sizeOf168
  v44 := Try.zeroValue168
  t46 := Try.underlying170
  a46 := Try.isAgg170
  z46 := Try.sizeOf170
  v46 := Try.zeroValue170
  t53 := Try.underlying176
  a53 := Try.isAgg176
  z53 := Try.sizeOf176
  v53 := Try.zeroValue176
  t57 := Try.underlying180
  a57 := Try.isAgg180
  z57 := Try.sizeOf180
  v57 := Try.zeroValue180
  t63 := Try.underlying190
  a63 := Try.isAgg190
  z63 := Try.sizeOf190
  v63 := Try.zeroValue190
  t64 := Try.underlying191
  a64 := Try.isAgg191
  z64 := Try.sizeOf191
  v64 := Try.zeroValue191 }

end Go.Proofs
namespace Go.Proofs.Ytaclakglglicdaa.Mir
open Go Go.RowKit Go.Shelf Go.Maps Go.Sort

def ofI : Value → Option Int
  | .int .i64 n => match decide (-9223372036854775808 ≤ n) && decide (n ≤ 9223372036854775807) with
    | true => some n
    | false => none
  | _ => none
def sortI (vs : List Value) : Option (List Value) := match keysV ofI vs with
  | some ks => match Nat.ble ks.length 1000000 with
    | true => some ((isort (fun x y => decide (x ≤ y)) ks).map encZ)
    | false => none
  | none => none
theorem sortI_eq {vs xs : List Value} (h : sortI vs = some xs) : ∃ ks, keysV ofI vs = some ks ∧ ks.length ≤ 1000000 ∧ xs = (isort (fun x y => decide (x ≤ y)) ks).map encZ := by
  unfold sortI at h
  split at h
  · rename_i ks hks
    split at h
    · rename_i hl
      cases h
      exact ⟨ks, hks, Nat.le_of_ble_eq_true hl, rfl⟩
    · cases h
  · cases h

theorem sortsI (m : Nat) : AnyZI.SortsIn Try.prog Ytaclakglglicdaa.sortedL_ren Fence.wide m :=
  ⟨fun blk off cap ss W hH hblk hsz => callsIn_wide.2 (AnyM.slices_Sort_int Ytaclakglglicdaa.sortL blk off cap ss W hH hblk hsz),
   fun p cap W => callsIn_wide.2 (AnyM.slices_Sort_int_none Ytaclakglglicdaa.sortL p cap W)⟩

theorem sortedI_ok : Sound Try.prog 61 (sortedG 94 3 sortI) := by
  refine sortedG_ok (by kernel_rfl) ?_ ?_ ?_
  · intro l xs h x hx
    obtain ⟨ks, _, _, rfl⟩ := sortI_eq h
    obtain ⟨y, _, rfl⟩ := List.mem_map.1 hx
    rfl
  · intro w b hb hm
    refine (callsIn_wide (n := 5)).1 ?_
    have hseq : SeqGives Fence.wide 2 Try.prog 94 #[.pointer (some ⟨b, 0, none⟩)] encZ (fun ss : List Int => ss = []) 0 w :=
      AnyZI.keys_gives_nil (ρ := Ytaclakglglicdaa.keysL_ren) { Ytaclakglglicdaa.keysL with } Fence.wide _ trivial rfl b _ hb hm
    have cS := AnyZI.sorted_in Ytaclakglglicdaa.sortedL Fence.wide 5 trivial trivial trivial trivial rfl (by omega) (sortsI _) (enters_of Try.func72 (by kernel_rfl) rfl) 94 #[.pointer (some ⟨b, 0, none⟩)] trivial (enters_of Try.func94 (by kernel_rfl) rfl) _ 0 (Nat.zero_le _) (by omega) _ hseq
    change CallsIn _ _ Try.prog 61 _ _ _ at cS
    refine cS.mono ?_
    rintro e w' ⟨v, ss, rfl, rfl, hrow, hnil, hb⟩
    obtain rfl : v = .slice none 0 0 := hnil.2 rfl
    exact ⟨rfl, hb⟩
  · intro w b q en clock xs hb hm hq hst hxs
    obtain ⟨ks, hks, hlen, rfl⟩ := sortI_eq hxs
    have hen : en.size = ks.length := by
      have : ∀ (l : List Value) (ks : List Int), keysV ofI l = some ks → l.length = ks.length := by
        intro l
        induction l with
        | nil => intro ks h; cases h; rfl
        | cons v l ih =>
          intro ks h
          unfold keysV at h
          split at h
          · split at h
            · rename_i hxs
              cases h
              simp [ih _ hxs]
            · cases h
          · cases h
      have := this _ _ hks
      simpa using this
    obtain ⟨es, hown, hperm, hel⟩ := owns_keys (P := Try.prog) (k := 3) ofI (Lit.int .i64) Go.intOf (fun _ => rfl) (fun v x h => by
      unfold ofI at h
      split at h
      · rename_i n
        split at h
        · rename_i hn
          cases h
          simp at hn
          have hk : Try.prog.underlying 3 = some (.int .i64) := by kernel_rfl
          simp [keyOf, hk, mapKey, Lit.wf]
          exact hn
        · cases h
      · cases h) hq hst hks (by simp [maxLen]; omega)
    refine (callsIn_wide (n := 5)).1 ?_
    have hseq : SeqGives Fence.wide 2 Try.prog 94 #[.pointer (some ⟨b, 0, none⟩)] encZ (fun ss => ss.Perm (intKeys (.map es))) (Maps.size (.map es)) w :=
      AnyZI.keys_gives (ρ := Ytaclakglglicdaa.keysL_ren) { Ytaclakglglicdaa.keysL with } Fence.wide _ trivial rfl (by omega) b q en.size (.map es) _ hb hm hown
    have cS := AnyZI.sorted_in Ytaclakglglicdaa.sortedL Fence.wide 5 trivial trivial trivial trivial rfl (by omega) (sortsI _) (enters_of Try.func72 (by kernel_rfl) rfl) 94 #[.pointer (some ⟨b, 0, none⟩)] trivial (enters_of Try.func94 (by kernel_rfl) rfl) _ _ (by rw [Maps.size_eq, hel, hen]; simp [maxLen]; omega) (by rw [Maps.size_eq, hel, hen]; omega) _ hseq
    change CallsIn _ _ Try.prog 61 _ _ _ at cS
    refine cS.mono ?_
    rintro e w' ⟨v, ss, rfl, hS, hrow, hnil, hb⟩
    have hss : ss.Perm ks := hS.trans hperm
    have hsort := isort_eq (le := fun x y : Int => decide (x ≤ y)) (by intro a b c; simp; omega) (by intro a b; simp; omega) (by intro a b; simp; omega) hss
    refine ⟨v, rfl, ?_, ?_, hb⟩
    · rw [hsort] at hrow
      have : ss.length = ((isort (fun x y : Int => decide (x ≤ y)) ks).map encZ).length := by
        rw [← hsort]; simp
      rw [← this]; exact hrow
    · rw [hnil, List.map_eq_nil_iff, ← hsort]
      constructor
      · rintro rfl; simp
      · intro h
        have := congrArg List.length h
        simpa using this
end Go.Proofs.Ytaclakglglicdaa.Mir
