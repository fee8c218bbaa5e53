/- What is told by hand in the runs of the stores' laws. -/
import Derived.Test.YtaclakglglicdaaGreatMirClone
import Derived.Test.YtaclakglglicdaaGreatMirSorted
import Derived.Test.YtaclakglglicdaaGreatMirSortK
import Derived.Test.YtaclakglglicdaaGreatMirSum
import Derived.Test.YtaclakglglicdaaGreatMirUse
namespace Go.Proofs.YtaclakglglicdaaGreat.Mir
open Go Go.RowKit

def extK : Ext := fun f => match Nat.beq f 145 with
  | true => some sumG
  | false => match Nat.beq f 89 with
    | true => some (sortedG 123 3 sortI)
    | false => match Nat.beq f 48 with
      | true => some cloneG
      | false => match Nat.beq f 81 with
        | true => some (sortedG 119 9 sortS)
        | false => none
theorem extK_ok : ∀ f g, extK f = some g → Sound Tryz.prog f g := by
  intro f g h
  unfold extK at h
  split at h
  · rename_i hf
    obtain rfl := Nat.eq_of_beq_eq_true hf
    cases h
    exact sum_ok
  · split at h
    · rename_i hf
      obtain rfl := Nat.eq_of_beq_eq_true hf
      cases h
      exact sortedI_ok
    · split at h
      · rename_i hf
        obtain rfl := Nat.eq_of_beq_eq_true hf
        cases h
        exact clone_ok
      · split at h
        · rename_i hf
          obtain rfl := Nat.eq_of_beq_eq_true hf
          cases h
          exact sortedS_ok
        · cases h

/-- A function without arguments that a run of its own tells. -/
def trueG : List D → List Row → Option Eff
  | [], _ => some ⟨.f (.v (.bool true)), [], []⟩
  | _ :: _, _ => none
theorem true_ok {P : Program} (hP : Good P) {ext : Ext} (hext : ∀ f g, ext f = some g → Sound P f g) {n : Nat} {f : FuncId} (h : isTrue (run P ext n f [] []) = true) : Sound P f trueG := by
  intro args H e hg w φ X vs hH hargs
  cases args with
  | cons a l => cases hg
  | nil =>
    cases hg
    have h0 : HR P w φ (Av X φ H) [] := ⟨fun r x hx => by simp at hx, fun r s x y hx => by simp at hx, fun r x hx => by simp at hx, fun b hb => by
      rcases hb with hb | hb
      · exact hH.old b hb
      · exact hH.live_lt hb⟩
    refine (run_ok hP hext n f [] [] _ (isTrue_eq h) w φ (Av X φ H) vs h0 ⟨hargs.1, fun i d u hd => by simp at hd⟩).mono ?_
    rintro e w' ⟨v, rfl, φ', h1, h2, h3, h4, h5⟩
    cases h3 with | f h3 => cases h3 with | v _ =>
    refine ⟨_, rfl, leaves_same hH (h4.mono fun b _ hb => ?_) fun A => .f (.v rfl)⟩
    obtain ⟨r, x, hx, _⟩ := hb
    simp at hx
end Go.Proofs.YtaclakglglicdaaGreat.Mir
