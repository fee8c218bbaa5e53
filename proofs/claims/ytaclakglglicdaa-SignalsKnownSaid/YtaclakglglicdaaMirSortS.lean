/- slices.Sorted(maps.Keys(m)) told by its contract: keys that are strings. -/
import Derived.Test.YtaclakglglicdaaMirSortG
import Derived.Ground.GgzProg
import Derived.Ground.SlgmProg
namespace Go.Proofs
open Go.RowKit Go.Maps Go.Sort Go.Shelf
def Ytaclakglglicdaa.keysS_ren : Go.Shelf.Ren := ⟨fun | 7 => 83 | 10 => 108 | n => n, fun | 23 => 127 | 26 => 9 | 3 => 28 | 28 => 131 | 0 => 0 | 27 => 130 | 33 => 148 | 4 => 4 | n => n, fun | n => n⟩
theorem Ytaclakglglicdaa.keysS : Go.Proofs.SlLaysZ.n7 Try.prog Ytaclakglglicdaa.keysS_ren := {
  mixed := by kernel_rfl
  f7 := ⟨Try.f83.name, by decide, Try.func83.trans (congrArg some (by kernel_rfl))⟩
  f10 := ⟨Try.f108.name, by decide, Try.func108.trans (congrArg some (by kernel_rfl))⟩
  t0 := Try.underlying0
  a0 := Try.isAgg0
  z0 := Try.sizeOf0
  v0 := Try.zeroValue0
  t4 := Try.underlying4
  a4 := Try.isAgg4
  z4 := Try.sizeOf4
  v4 := Try.zeroValue4
  t23 := Try.underlying127
  a23 := Try.isAgg127
  z23 := Try.sizeOf127
  v23 := Try.zeroValue127
  t26 := Try.underlying9
  a26 := Try.isAgg9
  z26 := Try.sizeOf9
  v26 := Try.zeroValue9
  t27 := Try.underlying130
  a27 := Try.isAgg130
  z27 := Try.sizeOf130
  v27 := Try.zeroValue130
  t28 := Try.underlying131
  a28 := Try.isAgg131
  z28 := Try.sizeOf131
  v28 := Try.zeroValue131
  t33 := Try.underlying148
  a33 := Try.isAgg148
  z33 := Try.sizeOf148
  v33 := Try.zeroValue148 }

def Ytaclakglglicdaa.sortedS_ren : Go.Shelf.Ren := ⟨fun | 6 => 82 | 8 => 106 | 9 => 107 | 11 => 138 | 13 => 100 | 12 => 139 | 23 => 136 | 24 => 137 | 14 => 150 | 15 => 151 | 16 => 152 | 17 => 153 | 18 => 154 | 19 => 155 | 20 => 156 | 21 => 157 | 22 => 158 | 25 => 162 | 26 => 145 | 27 => 146 | 28 => 163 | 29 => 164 | 30 => 165 | 31 => 166 | n => n, fun | 26 => 9 | 28 => 131 | 24 => 76 | 0 => 0 | 3 => 3 | 37 => 143 | 48 => 168 | 50 => 170 | 4 => 4 | 40 => 160 | 39 => 159 | 45 => 165 | 5 => 5 | 9 => 9 | 51 => 176 | 55 => 180 | 57 => 190 | 58 => 191 | 33 => 148 | n => n, fun | n => n⟩
theorem Ytaclakglglicdaa.sortedS : Go.Proofs.SlLaysZ.n6 Try.prog Ytaclakglglicdaa.sortedS_ren := {
  mixed := by kernel_rfl
  f6 := ⟨Try.f82.name, by decide, Try.func82.trans (congrArg some (by kernel_rfl))⟩
  f8 := ⟨Try.f106.name, by decide, Try.func106.trans (congrArg some (by kernel_rfl))⟩
  f11 := ⟨Try.f138.name, by decide, Try.func138.trans (congrArg some (by kernel_rfl))⟩
  t0 := Try.underlying0
  a0 := Try.isAgg0
  z0 := Try.sizeOf0
  v0 := Try.zeroValue0
  t24 := Try.underlying76
  a24 := Try.isAgg76
  z24 := Try.sizeOf76
  v24 := Try.zeroValue76
  t26 := Try.underlying9
  a26 := Try.isAgg9
  z26 := Try.sizeOf9
  v26 := Try.zeroValue9
  t28 := Try.underlying131
  a28 := Try.isAgg131
  z28 := Try.sizeOf131
  v28 := Try.zeroValue131
  i26 := by kernel_rfl }

def Ytaclakglglicdaa.sortS_ren : Go.Shelf.Ren := ⟨fun | 6 => 107 | 8 => 100 | 9 => 139 | 19 => 136 | 20 => 137 | 21 => 150 | 22 => 151 | 23 => 152 | 24 => 153 | 25 => 154 | 26 => 155 | 27 => 156 | 28 => 157 | 29 => 158 | 36 => 162 | 31 => 145 | 32 => 146 | 37 => 163 | 38 => 164 | 39 => 165 | 41 => 166 | n => n, fun | 27 => 76 | 29 => 9 | 3 => 3 | 32 => 143 | 26 => 76 | 0 => 0 | 44 => 168 | 46 => 170 | 4 => 4 | 36 => 160 | 35 => 159 | 41 => 165 | 5 => 5 | 9 => 9 | 53 => 176 | 57 => 180 | 63 => 190 | 64 => 191 | n => n, fun | n => n⟩
theorem Ytaclakglglicdaa.sortS : Go.Proofs.SlLaysM.n6 Try.prog Ytaclakglglicdaa.sortS_ren := {
  mixed := by kernel_rfl
  f6 := ⟨Try.f107.name, by decide, Try.func107.trans (congrArg some (by kernel_rfl))⟩
  f8 := Try.func100.trans (congrArg some (by kernel_rfl))
  f9 := ⟨Try.f139.name, by decide, Try.func139.trans (congrArg some (by kernel_rfl))⟩
  f19 := Try.func136.trans (congrArg some (by kernel_rfl))
  f20 := Try.func137.trans (congrArg some (by kernel_rfl))
  f21 := ⟨Try.f150.name, by decide, Try.func150.trans (congrArg some (by kernel_rfl))⟩
  f22 := ⟨Try.f151.name, by decide, Try.func151.trans (congrArg some (by kernel_rfl))⟩
  f23 := ⟨Try.f152.name, by decide, Try.func152.trans (congrArg some (by kernel_rfl))⟩
  f24 := ⟨Try.f153.name, by decide, Try.func153.trans (congrArg some (by kernel_rfl))⟩
  f25 := ⟨Try.f154.name, by decide, Try.func154.trans (congrArg some (by kernel_rfl))⟩
  f26 := ⟨Try.f155.name, by decide, Try.func155.trans (congrArg some (by kernel_rfl))⟩
  f27 := ⟨Try.f156.name, by decide, Try.func156.trans (congrArg some (by kernel_rfl))⟩
  f28 := ⟨Try.f157.name, by decide, Try.func157.trans (congrArg some (by kernel_rfl))⟩
  f29 := ⟨Try.f158.name, by decide, Try.func158.trans (congrArg some (by kernel_rfl))⟩
  f31 := Try.func145.trans (congrArg some (by kernel_rfl))
  f32 := Try.func146.trans (congrArg some (by kernel_rfl))
  f36 := ⟨Try.f162.name, by decide, Try.func162.trans (congrArg some (by kernel_rfl))⟩
  f37 := ⟨Try.f163.name, by decide, Try.func163.trans (congrArg some (by kernel_rfl))⟩
  f38 := ⟨Try.f164.name, by decide, Try.func164.trans (congrArg some (by kernel_rfl))⟩
  f39 := ⟨Try.f165.name, by decide, Try.func165.trans (congrArg some (by kernel_rfl))⟩
  f41 := ⟨Try.f166.name, by decide, Try.func166.trans (congrArg some (by kernel_rfl))⟩
  t0 := Try.underlying0
  a0 := Try.isAgg0
  z0 := Try.sizeOf0
  v0 := Try.zeroValue0
  t3 := Try.underlying3
  a3 := Try.isAgg3
  z3 := Try.sizeOf3
  v3 := Try.zeroValue3
  t4 := Try.underlying4
  a4 := Try.isAgg4
  z4 := Try.sizeOf4
  v4 := Try.zeroValue4
  t5 := Try.underlying5
  a5 := Try.isAgg5
  z5 := Try.sizeOf5
  v5 := Try.zeroValue5
  t9 := Try.underlying9
  a9 := Try.isAgg9
  z9 := Try.sizeOf9
  v9 := Try.zeroValue9
  t26 := Try.underlying76
  a26 := Try.isAgg76
  z26 := Try.sizeOf76
  v26 := Try.zeroValue76
  t27 := Try.underlying76
  a27 := Try.isAgg76
  z27 := Try.sizeOf76
  v27 := Try.zeroValue76
  t29 := Try.underlying9
  a29 := Try.isAgg9
  z29 := Try.sizeOf9
  v29 := Try.zeroValue9
  t32 := Try.underlying143
  a32 := Try.isAgg143
  z32 := Try.sizeOf143
  v32 := Try.zeroValue143
  t35 := Try.underlying159
  a35 := Try.isAgg159
  z35 := Try.sizeOf159
  v35 := Try.zeroValue159
  t36 := Try.underlying160
  a36 := Try.isAgg160
  z36 := Try.sizeOf160
  v36 := Try.zeroValue160
  t41 := Try.underlying165
  a41 := Try.isAgg165
  z41 := Try.sizeOf165
  v41 := Try.zeroValue165
  t44 := Try.underlying168
  a44 := Try.isAgg168
  z44 := Try.sizeOf168
  v44 := Try.zeroValue168
  t46 := Try.underlying170
  a46 := Try.isAgg170
  z46 := Try.sizeOf170
  v46 := Try.zeroValue170
  t53 := Try.underlying176
  a53 := Try.isAgg176
  z53 := Try.sizeOf176
  v53 := Try.zeroValue176
  t57 := Try.underlying180
  a57 := Try.isAgg180
  z57 := Try.sizeOf180
  v57 := Try.zeroValue180
  t63 := Try.underlying190
  a63 := Try.isAgg190
  z63 := Try.sizeOf190
  v63 := Try.zeroValue190
  t64 := Try.underlying191
  a64 := Try.isAgg191
  z64 := Try.sizeOf191
  v64 := Try.zeroValue191 }

end Go.Proofs
namespace Go.Proofs.Ytaclakglglicdaa.Mir
open Go Go.RowKit Go.Shelf Go.Maps Go.Sort

/-- Go's order of strings, for the kernel. -/
def leS : List UInt8 → List UInt8 → Bool
  | [], _ => true
  | _ :: _, [] => false
  | x :: xs, y :: ys => match Nat.blt x.toNat y.toNat with
    | true => true
    | false => match Nat.blt y.toNat x.toNat with
      | true => false
      | false => leS xs ys
theorem leS_eq : ∀ a b : List UInt8, leS a b = decide (a ≤ b)
  | [], b => by simp [leS]
  | x :: xs, [] => by simp [leS]
  | x :: xs, y :: ys => by
    have h : ((x :: xs) ≤ (y :: ys)) ↔ x < y ∨ x = y ∧ xs ≤ ys := List.cons_le_cons_iff
    unfold leS
    split
    · rename_i h1
      have : x < y := UInt8.lt_iff_toNat_lt.2 (Nat.blt_eq.mp h1)
      exact (decide_eq_true (h.2 (.inl this))).symm
    · rename_i h1
      have h1' : ¬ x < y := fun e => by rw [Nat.blt_eq.mpr (UInt8.lt_iff_toNat_lt.1 e)] at h1; cases h1
      split
      · rename_i h2
        have h2' : y < x := UInt8.lt_iff_toNat_lt.2 (Nat.blt_eq.mp h2)
        refine (decide_eq_false fun e => ?_).symm
        rcases h.1 e with e | ⟨rfl, _⟩
        · exact h1' e
        · exact h1' h2'
      · rename_i h2
        have h2' : ¬ y < x := fun e => by rw [Nat.blt_eq.mpr (UInt8.lt_iff_toNat_lt.1 e)] at h2; cases h2
        have hxy : x = y := by
          apply UInt8.toNat.inj
          simp [UInt8.lt_iff_toNat_lt] at h1' h2'
          omega
        rw [leS_eq xs ys, decide_eq_decide, h]
        simp [hxy]
theorem leS_fun : leS = fun x y => decide (x ≤ y) := funext fun a => funext fun b => leS_eq a b
def ofS : Value → Option (List UInt8)
  | .string ⟨⟨l⟩⟩ => match Nat.ble l.length 100000 with
    | true => some l
    | false => none
  | _ => none
def sortS (vs : List Value) : Option (List Value) := match keysV ofS vs with
  | some ks => match Nat.ble ks.length 1000000 with
    | true => some ((isort leS ks).map encStr)
    | false => none
  | none => none
theorem sortS_eq {vs xs : List Value} (h : sortS vs = some xs) : ∃ ks, keysV ofS vs = some ks ∧ ks.length ≤ 1000000 ∧ xs = (isort leS ks).map encStr := by
  unfold sortS at h
  split at h
  · rename_i ks hks
    split at h
    · rename_i hl
      cases h
      exact ⟨ks, hks, Nat.le_of_ble_eq_true hl, rfl⟩
    · cases h
  · cases h

theorem sortsS (m : Nat) : AnyZ.SortsIn Try.prog Ytaclakglglicdaa.sortedS_ren Fence.wide m :=
  ⟨fun blk off cap ss W hH hblk hsz => callsIn_wide.2 (AnyM.slices_Sort_string Ytaclakglglicdaa.sortS blk off cap ss W hH hblk hsz),
   fun p cap W => callsIn_wide.2 (AnyM.slices_Sort_string_none Ytaclakglglicdaa.sortS p cap W)⟩

theorem sortedS_ok : Sound Try.prog 82 (sortedG 108 9 sortS) := by
  refine sortedG_ok (by kernel_rfl) ?_ ?_ ?_
  · intro l xs h x hx
    obtain ⟨ks, _, _, rfl⟩ := sortS_eq h
    obtain ⟨y, _, rfl⟩ := List.mem_map.1 hx
    rfl
  · intro w b hb hm
    refine (callsIn_wide (n := 5)).1 ?_
    have hseq : SeqGives Fence.wide 2 Try.prog 108 #[.pointer (some ⟨b, 0, none⟩)] encStr (fun ss : List (List UInt8) => ss = []) 0 w :=
      AnyZ.keys_gives_nil (ρ := Ytaclakglglicdaa.keysS_ren) { Ytaclakglglicdaa.keysS with } Fence.wide _ trivial rfl b _ hb hm
    have cS := AnyZ.sorted_in Ytaclakglglicdaa.sortedS Fence.wide 5 trivial trivial trivial trivial rfl (by omega) (sortsS _) (enters_of Try.func107 (by kernel_rfl) rfl) 108 #[.pointer (some ⟨b, 0, none⟩)] trivial (enters_of Try.func108 (by kernel_rfl) rfl) _ 0 (Nat.zero_le _) (by omega) _ hseq
    change CallsIn _ _ Try.prog 82 _ _ _ at cS
    refine cS.mono ?_
    rintro e w' ⟨v, ss, rfl, rfl, hrow, hnil, hb⟩
    obtain rfl : v = .slice none 0 0 := hnil.2 rfl
    exact ⟨rfl, hb⟩
  · intro w b q en clock xs hb hm hq hst hxs
    obtain ⟨ks, hks, hlen, rfl⟩ := sortS_eq hxs
    have hen : en.size = ks.length := by
      have : ∀ (l : List Value) (ks : List (List UInt8)), keysV ofS l = some ks → l.length = ks.length := by
        intro l
        induction l with
        | nil => intro ks h; cases h; rfl
        | cons v l ih =>
          intro ks h
          unfold keysV at h
          split at h
          · split at h
            · rename_i hxs
              cases h
              simp [ih _ hxs]
            · cases h
          · cases h
      have := this _ _ hks
      simpa using this
    have hl0 := hlen
    obtain ⟨es, hown, hperm, hel⟩ := owns_keys (P := Try.prog) (k := 9) ofS Lit.string strOf (fun _ => rfl) (fun v x h => by
      unfold ofS at h
      split at h
      · rename_i n
        split at h
        · rename_i hn
          cases h
          have hk : Try.prog.underlying 9 = some .string := by kernel_rfl
          have hn' := Nat.le_of_ble_eq_true hn
          have hsz : (ByteArray.mk ⟨x⟩).size ≤ maxLen := by
            show x.length ≤ maxLen
            simp [maxLen]; omega
          simp [keyOf, hk, mapKey, hsz]
        · cases h
      · cases h) hq hst hks (by simp [maxLen]; omega)
    refine (callsIn_wide (n := 5)).1 ?_
    have hseq : SeqGives Fence.wide 2 Try.prog 108 #[.pointer (some ⟨b, 0, none⟩)] encStr (fun ss => ss.Perm (strKeys (.map es))) (Maps.size (.map es)) w :=
      AnyZ.keys_gives (ρ := Ytaclakglglicdaa.keysS_ren) { Ytaclakglglicdaa.keysS with } Fence.wide _ trivial rfl (by omega) b q en.size (.map es) _ hb hm hown
    have cS := AnyZ.sorted_in Ytaclakglglicdaa.sortedS Fence.wide 5 trivial trivial trivial trivial rfl (by omega) (sortsS _) (enters_of Try.func107 (by kernel_rfl) rfl) 108 #[.pointer (some ⟨b, 0, none⟩)] trivial (enters_of Try.func108 (by kernel_rfl) rfl) _ _ (by rw [Maps.size_eq, hel, hen]; simp [maxLen]; omega) (by rw [Maps.size_eq, hel, hen]; omega) _ hseq
    change CallsIn _ _ Try.prog 82 _ _ _ at cS
    refine cS.mono ?_
    rintro e w' ⟨v, ss, rfl, hS, hrow, hnil, hb⟩
    have hss : ss.Perm ks := hS.trans hperm
    have hsort : ss.mergeSort (fun x y => decide (x ≤ y)) = isort leS ks := by
      rw [leS_fun]
      exact isort_eq (le := fun x y : List UInt8 => decide (x ≤ y)) (fun a b c h1 h2 => by simp only [decide_eq_true_eq] at *; exact List.le_trans h1 h2) (fun a b => by simp only [Bool.or_eq_true, decide_eq_true_eq]; exact List.le_total a b) (fun a b h1 h2 => by simp only [decide_eq_true_eq] at h1 h2; exact List.le_antisymm h1 h2) hss
    refine ⟨v, rfl, ?_, ?_, hb⟩
    · rw [hsort] at hrow
      have : ss.length = ((isort leS ks).map encStr).length := by
        rw [← hsort]; simp
      rw [← this]; exact hrow
    · rw [hnil, List.map_eq_nil_iff, ← hsort]
      constructor
      · rintro rfl; simp
      · intro h
        have := congrArg List.length h
        simpa using this
end Go.Proofs.Ytaclakglglicdaa.Mir
