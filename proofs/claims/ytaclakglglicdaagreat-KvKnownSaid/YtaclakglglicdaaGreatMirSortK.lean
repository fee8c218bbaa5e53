/- slices.Sorted(maps.Keys(m)) told by its contract: keys that are strings. -/
import Derived.Test.YtaclakglglicdaaGreatMirSortG
import Derived.Ground.GgzProg
import Derived.Ground.SlgmProg
namespace Go.Proofs
open Go.RowKit Go.Maps Go.Sort Go.Shelf
shelf_lay_g SlLaysZ.n7 Ggz 7 at Tryz 82 as YtaclakglglicdaaGreat.keysS
shelf_lay_g SlLaysZ.n6 Ggz 6 at Tryz 81 as YtaclakglglicdaaGreat.sortedS
shelf_lay_g SlLaysM.n6 Slgm 6 at Tryz 118 as YtaclakglglicdaaGreat.sortS
end Go.Proofs
namespace Go.Proofs.YtaclakglglicdaaGreat.Mir
open Go Go.RowKit Go.Shelf Go.Maps Go.Sort

/-- Go's order of strings, for the kernel. -/
def leS : List UInt8 → List UInt8 → Bool
  | [], _ => true
  | _ :: _, [] => false
  | x :: xs, y :: ys => match Nat.blt x.toNat y.toNat with
    | true => true
    | false => match Nat.blt y.toNat x.toNat with
      | true => false
      | false => leS xs ys
theorem leS_eq : ∀ a b : List UInt8, leS a b = decide (a ≤ b)
  | [], b => by simp [leS]
  | x :: xs, [] => by simp [leS]
  | x :: xs, y :: ys => by
    have h : ((x :: xs) ≤ (y :: ys)) ↔ x < y ∨ x = y ∧ xs ≤ ys := List.cons_le_cons_iff
    unfold leS
    split
    · rename_i h1
      have : x < y := UInt8.lt_iff_toNat_lt.2 (Nat.blt_eq.mp h1)
      exact (decide_eq_true (h.2 (.inl this))).symm
    · rename_i h1
      have h1' : ¬ x < y := fun e => by rw [Nat.blt_eq.mpr (UInt8.lt_iff_toNat_lt.1 e)] at h1; cases h1
      split
      · rename_i h2
        have h2' : y < x := UInt8.lt_iff_toNat_lt.2 (Nat.blt_eq.mp h2)
        refine (decide_eq_false fun e => ?_).symm
        rcases h.1 e with e | ⟨rfl, _⟩
        · exact h1' e
        · exact h1' h2'
      · rename_i h2
        have h2' : ¬ y < x := fun e => by rw [Nat.blt_eq.mpr (UInt8.lt_iff_toNat_lt.1 e)] at h2; cases h2
        have hxy : x = y := by
          apply UInt8.toNat.inj
          simp [UInt8.lt_iff_toNat_lt] at h1' h2'
          omega
        rw [leS_eq xs ys, decide_eq_decide, h]
        simp [hxy]
theorem leS_fun : leS = fun x y => decide (x ≤ y) := funext fun a => funext fun b => leS_eq a b
def ofS : Value → Option (List UInt8)
  | .string ⟨⟨l⟩⟩ => match Nat.ble l.length 100000 with
    | true => some l
    | false => none
  | _ => none
def sortS (vs : List Value) : Option (List Value) := match keysV ofS vs with
  | some ks => match Nat.ble ks.length 1000000 with
    | true => some ((isort leS ks).map encStr)
    | false => none
  | none => none
theorem sortS_eq {vs xs : List Value} (h : sortS vs = some xs) : ∃ ks, keysV ofS vs = some ks ∧ ks.length ≤ 1000000 ∧ xs = (isort leS ks).map encStr := by
  unfold sortS at h
  split at h
  · rename_i ks hks
    split at h
    · rename_i hl
      cases h
      exact ⟨ks, hks, Nat.le_of_ble_eq_true hl, rfl⟩
    · cases h
  · cases h

theorem sortsS (m : Nat) : AnyZ.SortsIn Tryz.prog YtaclakglglicdaaGreat.sortedS_ren Fence.wide m :=
  ⟨fun blk off cap ss W hH hblk hsz => callsIn_wide.2 (AnyM.slices_Sort_string YtaclakglglicdaaGreat.sortS blk off cap ss W hH hblk hsz),
   fun p cap W => callsIn_wide.2 (AnyM.slices_Sort_string_none YtaclakglglicdaaGreat.sortS p cap W)⟩

theorem sortedS_ok : Sound Tryz.prog 81 (sortedG 119 9 sortS) := by
  refine sortedG_ok (by kernel_rfl) ?_ ?_ ?_
  · intro l xs h x hx
    obtain ⟨ks, _, _, rfl⟩ := sortS_eq h
    obtain ⟨y, _, rfl⟩ := List.mem_map.1 hx
    rfl
  · intro w b hb hm
    refine (callsIn_wide (n := 5)).1 ?_
    have hseq : SeqGives Fence.wide 2 Tryz.prog 119 #[.pointer (some ⟨b, 0, none⟩)] encStr (fun ss : List (List UInt8) => ss = []) 0 w :=
      AnyZ.keys_gives_nil (ρ := YtaclakglglicdaaGreat.keysS_ren) { YtaclakglglicdaaGreat.keysS with } Fence.wide _ trivial rfl b _ hb hm
    have cS := AnyZ.sorted_in YtaclakglglicdaaGreat.sortedS Fence.wide 5 trivial trivial trivial trivial rfl (by omega) (sortsS _) (enters_of Tryz.func118 (by kernel_rfl) rfl) 119 #[.pointer (some ⟨b, 0, none⟩)] trivial (enters_of Tryz.func119 (by kernel_rfl) rfl) _ 0 (Nat.zero_le _) (by omega) _ hseq
    change CallsIn _ _ Tryz.prog 81 _ _ _ at cS
    refine cS.mono ?_
    rintro e w' ⟨v, ss, rfl, rfl, hrow, hnil, hb⟩
    obtain rfl : v = .slice none 0 0 := hnil.2 rfl
    exact ⟨rfl, hb⟩
  · intro w b q en clock xs hb hm hq hst hxs
    obtain ⟨ks, hks, hlen, rfl⟩ := sortS_eq hxs
    have hen : en.size = ks.length := by
      have : ∀ (l : List Value) (ks : List (List UInt8)), keysV ofS l = some ks → l.length = ks.length := by
        intro l
        induction l with
        | nil => intro ks h; cases h; rfl
        | cons v l ih =>
          intro ks h
          unfold keysV at h
          split at h
          · split at h
            · rename_i hxs
              cases h
              simp [ih _ hxs]
            · cases h
          · cases h
      have := this _ _ hks
      simpa using this
    have hl0 := hlen
    obtain ⟨es, hown, hperm, hel⟩ := owns_keys (P := Tryz.prog) (k := 9) ofS Lit.string strOf (fun _ => rfl) (fun v x h => by
      unfold ofS at h
      split at h
      · rename_i n
        split at h
        · rename_i hn
          cases h
          have hk : Tryz.prog.underlying 9 = some .string := by kernel_rfl
          have hn' := Nat.le_of_ble_eq_true hn
          have hsz : (ByteArray.mk ⟨x⟩).size ≤ maxLen := by
            show x.length ≤ maxLen
            simp [maxLen]; omega
          simp [keyOf, hk, mapKey, hsz]
        · cases h
      · cases h) hq hst hks (by simp [maxLen]; omega)
    refine (callsIn_wide (n := 5)).1 ?_
    have hseq : SeqGives Fence.wide 2 Tryz.prog 119 #[.pointer (some ⟨b, 0, none⟩)] encStr (fun ss => ss.Perm (strKeys (.map es))) (Maps.size (.map es)) w :=
      AnyZ.keys_gives (ρ := YtaclakglglicdaaGreat.keysS_ren) { YtaclakglglicdaaGreat.keysS with } Fence.wide _ trivial rfl (by omega) b q en.size (.map es) _ hb hm hown
    have cS := AnyZ.sorted_in YtaclakglglicdaaGreat.sortedS Fence.wide 5 trivial trivial trivial trivial rfl (by omega) (sortsS _) (enters_of Tryz.func118 (by kernel_rfl) rfl) 119 #[.pointer (some ⟨b, 0, none⟩)] trivial (enters_of Tryz.func119 (by kernel_rfl) rfl) _ _ (by rw [Maps.size_eq, hel, hen]; simp [maxLen]; omega) (by rw [Maps.size_eq, hel, hen]; omega) _ hseq
    change CallsIn _ _ Tryz.prog 81 _ _ _ at cS
    refine cS.mono ?_
    rintro e w' ⟨v, ss, rfl, hS, hrow, hnil, hb⟩
    have hss : ss.Perm ks := hS.trans hperm
    have hsort : ss.mergeSort (fun x y => decide (x ≤ y)) = isort leS ks := by
      rw [leS_fun]
      exact isort_eq (le := fun x y : List UInt8 => decide (x ≤ y)) (fun a b c h1 h2 => by simp only [decide_eq_true_eq] at *; exact List.le_trans h1 h2) (fun a b => by simp only [Bool.or_eq_true, decide_eq_true_eq]; exact List.le_total a b) (fun a b h1 h2 => by simp only [decide_eq_true_eq] at h1 h2; exact List.le_antisymm h1 h2) hss
    refine ⟨v, rfl, ?_, ?_, hb⟩
    · rw [hsort] at hrow
      have : ss.length = ((isort leS ks).map encStr).length := by
        rw [← hsort]; simp
      rw [← this]; exact hrow
    · rw [hnil, List.map_eq_nil_iff, ← hsort]
      constructor
      · rintro rfl; simp
      · intro h
        have := congrArg List.length h
        simpa using this
end Go.Proofs.YtaclakglglicdaaGreat.Mir
