/- slices.Sorted(maps.Keys(m)) told by its contract: keys that are strings. -/
import Derived.Test.YtaclakglglicdaaGreatMirSortG
import Derived.Ground.GgzProg
import Derived.Ground.SlgmProg
namespace Go.Proofs
open Go.RowKit Go.Maps Go.Sort Go.Shelf
def YtaclakglglicdaaGreat.keysS_ren : Go.Shelf.Ren := ⟨fun | 7 => 82 | 10 => 119 | n => n, fun | 23 => 131 | 26 => 9 | 3 => 31 | 28 => 139 | 0 => 0 | 27 => 138 | 33 => 142 | 4 => 4 | n => n, fun | n => n⟩
theorem YtaclakglglicdaaGreat.keysS : Go.Proofs.SlLaysZ.n7 Tryz.prog YtaclakglglicdaaGreat.keysS_ren := {
  mixed := by kernel_rfl
  f7 := ⟨Tryz.f82.name, by decide, Tryz.func82.trans (congrArg some (by kernel_rfl))⟩
  f10 := ⟨Tryz.f119.name, by decide, Tryz.func119.trans (congrArg some (by kernel_rfl))⟩
  t0 := Tryz.underlying0
  a0 := Tryz.isAgg0
  z0 := Tryz.sizeOf0
  v0 := Tryz.zeroValue0
  t4 := Tryz.underlying4
  a4 := Tryz.isAgg4
  z4 := Tryz.sizeOf4
  v4 := Tryz.zeroValue4
  t23 := Tryz.underlying131
  a23 := Tryz.isAgg131
  z23 := Tryz.sizeOf131
  v23 := Tryz.zeroValue131
  t26 := Tryz.underlying9
  a26 := Tryz.isAgg9
  z26 := Tryz.sizeOf9
  v26 := Tryz.zeroValue9
  t27 := Tryz.underlying138
  a27 := Tryz.isAgg138
  z27 := Tryz.sizeOf138
  v27 := Tryz.zeroValue138
  t28 := Tryz.underlying139
  a28 := Tryz.isAgg139
  z28 := Tryz.sizeOf139
  v28 := Tryz.zeroValue139
  t33 := Tryz.underlying142
  a33 := Tryz.isAgg142
  z33 := Tryz.sizeOf142
  v33 := Tryz.zeroValue142 }

def YtaclakglglicdaaGreat.sortedS_ren : Go.Shelf.Ren := ⟨fun | 6 => 81 | 8 => 117 | 9 => 118 | 11 => 140 | 13 => 142 | 12 => 141 | 23 => 171 | 24 => 172 | 14 => 162 | 15 => 163 | 16 => 164 | 17 => 165 | 18 => 166 | 19 => 167 | 20 => 168 | 21 => 169 | 22 => 170 | 25 => 193 | 26 => 194 | 27 => 195 | 28 => 196 | 29 => 197 | 30 => 198 | 31 => 213 | n => n, fun | 26 => 9 | 28 => 139 | 24 => 70 | 0 => 0 | 3 => 3 | 37 => 201 | 48 => 185 | 50 => 172 | 4 => 4 | 40 => 230 | 39 => 229 | 45 => 234 | 5 => 5 | 9 => 9 | 51 => 259 | 55 => 263 | 57 => 277 | 58 => 278 | 33 => 142 | n => n, fun | n => n⟩
theorem YtaclakglglicdaaGreat.sortedS : Go.Proofs.SlLaysZ.n6 Tryz.prog YtaclakglglicdaaGreat.sortedS_ren := {
  mixed := by kernel_rfl
  f6 := ⟨Tryz.f81.name, by decide, Tryz.func81.trans (congrArg some (by kernel_rfl))⟩
  f8 := ⟨Tryz.f117.name, by decide, Tryz.func117.trans (congrArg some (by kernel_rfl))⟩
  f11 := ⟨Tryz.f140.name, by decide, Tryz.func140.trans (congrArg some (by kernel_rfl))⟩
  t0 := Tryz.underlying0
  a0 := Tryz.isAgg0
  z0 := Tryz.sizeOf0
  v0 := Tryz.zeroValue0
  t24 := Tryz.underlying70
  a24 := Tryz.isAgg70
  z24 := Tryz.sizeOf70
  v24 := Tryz.zeroValue70
  t26 := Tryz.underlying9
  a26 := Tryz.isAgg9
  z26 := Tryz.sizeOf9
  v26 := Tryz.zeroValue9
  t28 := Tryz.underlying139
  a28 := Tryz.isAgg139
  z28 := Tryz.sizeOf139
  v28 := Tryz.zeroValue139
  i26 := by kernel_rfl }

def YtaclakglglicdaaGreat.sortS_ren : Go.Shelf.Ren := ⟨fun | 6 => 118 | 8 => 142 | 9 => 141 | 19 => 171 | 20 => 172 | 21 => 162 | 22 => 163 | 23 => 164 | 24 => 165 | 25 => 166 | 26 => 167 | 27 => 168 | 28 => 169 | 29 => 170 | 36 => 193 | 31 => 194 | 32 => 195 | 37 => 196 | 38 => 197 | 39 => 198 | 41 => 213 | n => n, fun | 27 => 70 | 29 => 9 | 3 => 3 | 32 => 201 | 26 => 70 | 0 => 0 | 44 => 185 | 46 => 172 | 4 => 4 | 36 => 230 | 35 => 229 | 41 => 234 | 5 => 5 | 9 => 9 | 53 => 259 | 57 => 263 | 63 => 277 | 64 => 278 | n => n, fun | n => n⟩
theorem YtaclakglglicdaaGreat.sortS : Go.Proofs.SlLaysM.n6 Tryz.prog YtaclakglglicdaaGreat.sortS_ren := {
  mixed := by kernel_rfl
  f6 := ⟨Tryz.f118.name, by decide, Tryz.func118.trans (congrArg some (by kernel_rfl))⟩
  f8 := Tryz.func142.trans (congrArg some (by kernel_rfl))
  f9 := ⟨Tryz.f141.name, by decide, Tryz.func141.trans (congrArg some (by kernel_rfl))⟩
  f19 := Tryz.func171.trans (congrArg some (by kernel_rfl))
  f20 := Tryz.func172.trans (congrArg some (by kernel_rfl))
  f21 := ⟨Tryz.f162.name, by decide, Tryz.func162.trans (congrArg some (by kernel_rfl))⟩
  f22 := ⟨Tryz.f163.name, by decide, Tryz.func163.trans (congrArg some (by kernel_rfl))⟩
  f23 := ⟨Tryz.f164.name, by decide, Tryz.func164.trans (congrArg some (by kernel_rfl))⟩
  f24 := ⟨Tryz.f165.name, by decide, Tryz.func165.trans (congrArg some (by kernel_rfl))⟩
  f25 := ⟨Tryz.f166.name, by decide, Tryz.func166.trans (congrArg some (by kernel_rfl))⟩
  f26 := ⟨Tryz.f167.name, by decide, Tryz.func167.trans (congrArg some (by kernel_rfl))⟩
  f27 := ⟨Tryz.f168.name, by decide, Tryz.func168.trans (congrArg some (by kernel_rfl))⟩
  f28 := ⟨Tryz.f169.name, by decide, Tryz.func169.trans (congrArg some (by kernel_rfl))⟩
  f29 := ⟨Tryz.f170.name, by decide, Tryz.func170.trans (congrArg some (by kernel_rfl))⟩
  f31 := Tryz.func194.trans (congrArg some (by kernel_rfl))
  f32 := Tryz.func195.trans (congrArg some (by kernel_rfl))
  f36 := ⟨Tryz.f193.name, by decide, Tryz.func193.trans (congrArg some (by kernel_rfl))⟩
  f37 := ⟨Tryz.f196.name, by decide, Tryz.func196.trans (congrArg some (by kernel_rfl))⟩
  f38 := ⟨Tryz.f197.name, by decide, Tryz.func197.trans (congrArg some (by kernel_rfl))⟩
  f39 := ⟨Tryz.f198.name, by decide, Tryz.func198.trans (congrArg some (by kernel_rfl))⟩
  f41 := ⟨Tryz.f213.name, by decide, Tryz.func213.trans (congrArg some (by kernel_rfl))⟩
  t0 := Tryz.underlying0
  a0 := Tryz.isAgg0
  z0 := Tryz.sizeOf0
  v0 := Tryz.zeroValue0
  t3 := Tryz.underlying3
  a3 := Tryz.isAgg3
  z3 := Tryz.sizeOf3
  v3 := Tryz.zeroValue3
  t4 := Tryz.underlying4
  a4 := Tryz.isAgg4
  z4 := Tryz.sizeOf4
  v4 := Tryz.zeroValue4
  t5 := Tryz.underlying5
  a5 := Tryz.isAgg5
  z5 := Tryz.sizeOf5
  v5 := Tryz.zeroValue5
  t9 := Tryz.underlying9
  a9 := Tryz.isAgg9
  z9 := Tryz.sizeOf9
  v9 := Tryz.zeroValue9
  t26 := Tryz.underlying70
  a26 := Tryz.isAgg70
  z26 := Tryz.sizeOf70
  v26 := Tryz.zeroValue70
  t27 := Tryz.underlying70
  a27 := Tryz.isAgg70
  z27 := Tryz.sizeOf70
  v27 := Tryz.zeroValue70
  t29 := Tryz.underlying9
  a29 := Tryz.isAgg9
  z29 := Tryz.sizeOf9
  v29 := Tryz.zeroValue9
  t32 := Tryz.underlying201
  a32 := Tryz.isAgg201
  z32 := Tryz.sizeOf201
  v32 := Tryz.zeroValue201
  t35 := Tryz.underlying229
  a35 := Tryz.isAgg229
  z35 := Tryz.sizeOf229
  v35 := Tryz.zeroValue229
  t36 := Tryz.underlying230
  a36 := Tryz.isAgg230
  z36 := Tryz.sizeOf230
  v36 := Tryz.zeroValue230
  t41 := Tryz.underlying234
  a41 := Tryz.isAgg234
  z41 := Tryz.sizeOf234
  v41 := Tryz.zeroValue234
  t44 := Tryz.underlying185
  a44 := Tryz.isAgg185
  z44 := Tryz.sizeOf185
  v44 := Tryz.zeroValue185
  t46 := Tryz.underlying172
  a46 := Tryz.isAgg172
  z46 := Tryz.sizeOf172
  v46 := Tryz.zeroValue172
  t53 := Tryz.underlying259
  a53 := Tryz.isAgg259
  z53 := Tryz.sizeOf259
  v53 := Tryz.zeroValue259
  t57 := Tryz.underlying263
  a57 := Tryz.isAgg263
  z57 := Tryz.sizeOf263
  v57 := Tryz.zeroValue263
  t63 := Tryz.underlying277
  a63 := Tryz.isAgg277
  z63 := Tryz.sizeOf277
  v63 := Tryz.zeroValue277
  t64 := Tryz.underlying278
  a64 := Tryz.isAgg278
  z64 := Tryz.sizeOf278
  v64 := Tryz.zeroValue278 }

end Go.Proofs
namespace Go.Proofs.YtaclakglglicdaaGreat.Mir
open Go Go.RowKit Go.Shelf Go.Maps Go.Sort

/-- Go's order of strings, for the kernel. -/
def leS : List UInt8 → List UInt8 → Bool
  | [], _ => true
  | _ :: _, [] => false
  | x :: xs, y :: ys => match Nat.blt x.toNat y.toNat with
    | true => true
    | false => match Nat.blt y.toNat x.toNat with
      | true => false
      | false => leS xs ys
theorem leS_eq : ∀ a b : List UInt8, leS a b = decide (a ≤ b)
  | [], b => by simp [leS]
  | x :: xs, [] => by simp [leS]
  | x :: xs, y :: ys => by
    have h : ((x :: xs) ≤ (y :: ys)) ↔ x < y ∨ x = y ∧ xs ≤ ys := List.cons_le_cons_iff
    unfold leS
    split
    · rename_i h1
      have : x < y := UInt8.lt_iff_toNat_lt.2 (Nat.blt_eq.mp h1)
      exact (decide_eq_true (h.2 (.inl this))).symm
    · rename_i h1
      have h1' : ¬ x < y := fun e => by rw [Nat.blt_eq.mpr (UInt8.lt_iff_toNat_lt.1 e)] at h1; cases h1
      split
      · rename_i h2
        have h2' : y < x := UInt8.lt_iff_toNat_lt.2 (Nat.blt_eq.mp h2)
        refine (decide_eq_false fun e => ?_).symm
        rcases h.1 e with e | ⟨rfl, _⟩
        · exact h1' e
        · exact h1' h2'
      · rename_i h2
        have h2' : ¬ y < x := fun e => by rw [Nat.blt_eq.mpr (UInt8.lt_iff_toNat_lt.1 e)] at h2; cases h2
        have hxy : x = y := by
          apply UInt8.toNat.inj
          simp [UInt8.lt_iff_toNat_lt] at h1' h2'
          omega
        rw [leS_eq xs ys, decide_eq_decide, h]
        simp [hxy]
theorem leS_fun : leS = fun x y => decide (x ≤ y) := funext fun a => funext fun b => leS_eq a b
def ofS : Value → Option (List UInt8)
  | .string ⟨⟨l⟩⟩ => match Nat.ble l.length 100000 with
    | true => some l
    | false => none
  | _ => none
def sortS (vs : List Value) : Option (List Value) := match keysV ofS vs with
  | some ks => match Nat.ble ks.length 1000000 with
    | true => some ((isort leS ks).map encStr)
    | false => none
  | none => none
theorem sortS_eq {vs xs : List Value} (h : sortS vs = some xs) : ∃ ks, keysV ofS vs = some ks ∧ ks.length ≤ 1000000 ∧ xs = (isort leS ks).map encStr := by
  unfold sortS at h
  split at h
  · rename_i ks hks
    split at h
    · rename_i hl
      cases h
      exact ⟨ks, hks, Nat.le_of_ble_eq_true hl, rfl⟩
    · cases h
  · cases h

theorem sortsS (m : Nat) : AnyZ.SortsIn Tryz.prog YtaclakglglicdaaGreat.sortedS_ren Fence.wide m :=
  ⟨fun blk off cap ss W hH hblk hsz => callsIn_wide.2 (AnyM.slices_Sort_string YtaclakglglicdaaGreat.sortS blk off cap ss W hH hblk hsz),
   fun p cap W => callsIn_wide.2 (AnyM.slices_Sort_string_none YtaclakglglicdaaGreat.sortS p cap W)⟩

theorem sortedS_ok : Sound Tryz.prog 81 (sortedG 119 9 sortS) := by
  refine sortedG_ok (by kernel_rfl) ?_ ?_ ?_
  · intro l xs h x hx
    obtain ⟨ks, _, _, rfl⟩ := sortS_eq h
    obtain ⟨y, _, rfl⟩ := List.mem_map.1 hx
    rfl
  · intro w b hb hm
    refine (callsIn_wide (n := 5)).1 ?_
    have hseq : SeqGives Fence.wide 2 Tryz.prog 119 #[.pointer (some ⟨b, 0, none⟩)] encStr (fun ss : List (List UInt8) => ss = []) 0 w :=
      AnyZ.keys_gives_nil (ρ := YtaclakglglicdaaGreat.keysS_ren) { YtaclakglglicdaaGreat.keysS with } Fence.wide _ trivial rfl b _ hb hm
    have cS := AnyZ.sorted_in YtaclakglglicdaaGreat.sortedS Fence.wide 5 trivial trivial trivial trivial rfl (by omega) (sortsS _) (enters_of Tryz.func118 (by kernel_rfl) rfl) 119 #[.pointer (some ⟨b, 0, none⟩)] trivial (enters_of Tryz.func119 (by kernel_rfl) rfl) _ 0 (Nat.zero_le _) (by omega) _ hseq
    change CallsIn _ _ Tryz.prog 81 _ _ _ at cS
    refine cS.mono ?_
    rintro e w' ⟨v, ss, rfl, rfl, hrow, hnil, hb⟩
    obtain rfl : v = .slice none 0 0 := hnil.2 rfl
    exact ⟨rfl, hb⟩
  · intro w b q en clock xs hb hm hq hst hxs
    obtain ⟨ks, hks, hlen, rfl⟩ := sortS_eq hxs
    have hen : en.size = ks.length := by
      have : ∀ (l : List Value) (ks : List (List UInt8)), keysV ofS l = some ks → l.length = ks.length := by
        intro l
        induction l with
        | nil => intro ks h; cases h; rfl
        | cons v l ih =>
          intro ks h
          unfold keysV at h
          split at h
          · split at h
            · rename_i hxs
              cases h
              simp [ih _ hxs]
            · cases h
          · cases h
      have := this _ _ hks
      simpa using this
    have hl0 := hlen
    obtain ⟨es, hown, hperm, hel⟩ := owns_keys (P := Tryz.prog) (k := 9) ofS Lit.string strOf (fun _ => rfl) (fun v x h => by
      unfold ofS at h
      split at h
      · rename_i n
        split at h
        · rename_i hn
          cases h
          have hk : Tryz.prog.underlying 9 = some .string := by kernel_rfl
          have hn' := Nat.le_of_ble_eq_true hn
          have hsz : (ByteArray.mk ⟨x⟩).size ≤ maxLen := by
            show x.length ≤ maxLen
            simp [maxLen]; omega
          simp [keyOf, hk, mapKey, hsz]
        · cases h
      · cases h) hq hst hks (by simp [maxLen]; omega)
    refine (callsIn_wide (n := 5)).1 ?_
    have hseq : SeqGives Fence.wide 2 Tryz.prog 119 #[.pointer (some ⟨b, 0, none⟩)] encStr (fun ss => ss.Perm (strKeys (.map es))) (Maps.size (.map es)) w :=
      AnyZ.keys_gives (ρ := YtaclakglglicdaaGreat.keysS_ren) { YtaclakglglicdaaGreat.keysS with } Fence.wide _ trivial rfl (by omega) b q en.size (.map es) _ hb hm hown
    have cS := AnyZ.sorted_in YtaclakglglicdaaGreat.sortedS Fence.wide 5 trivial trivial trivial trivial rfl (by omega) (sortsS _) (enters_of Tryz.func118 (by kernel_rfl) rfl) 119 #[.pointer (some ⟨b, 0, none⟩)] trivial (enters_of Tryz.func119 (by kernel_rfl) rfl) _ _ (by rw [Maps.size_eq, hel, hen]; simp [maxLen]; omega) (by rw [Maps.size_eq, hel, hen]; omega) _ hseq
    change CallsIn _ _ Tryz.prog 81 _ _ _ at cS
    refine cS.mono ?_
    rintro e w' ⟨v, ss, rfl, hS, hrow, hnil, hb⟩
    have hss : ss.Perm ks := hS.trans hperm
    have hsort : ss.mergeSort (fun x y => decide (x ≤ y)) = isort leS ks := by
      rw [leS_fun]
      exact isort_eq (le := fun x y : List UInt8 => decide (x ≤ y)) (fun a b c h1 h2 => by simp only [decide_eq_true_eq] at *; exact List.le_trans h1 h2) (fun a b => by simp only [Bool.or_eq_true, decide_eq_true_eq]; exact List.le_total a b) (fun a b h1 h2 => by simp only [decide_eq_true_eq] at h1 h2; exact List.le_antisymm h1 h2) hss
    refine ⟨v, rfl, ?_, ?_, hb⟩
    · rw [hsort] at hrow
      have : ss.length = ((isort leS ks).map encStr).length := by
        rw [← hsort]; simp
      rw [← this]; exact hrow
    · rw [hnil, List.map_eq_nil_iff, ← hsort]
      constructor
      · rintro rfl; simp
      · intro h
        have := congrArg List.length h
        simpa using this
end Go.Proofs.YtaclakglglicdaaGreat.Mir
