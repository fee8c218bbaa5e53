/- What is told by hand in the runs of the disk's laws. -/
import Derived.Test.YtaclakglglicdaaMirClone
import Derived.Test.YtaclakglglicdaaMirSorted
namespace Go.Proofs.Ytaclakglglicdaa.Mir
open Go Go.RowKit

def extD : Ext := fun f => match Nat.beq f 61 with
  | true => some (sortedG 94 3 sortI)
  | false => match Nat.beq f 63 with
    | true => some cloneG
    | false => none
theorem extD_ok : ∀ f g, extD f = some g → Sound Try.prog f g := by
  intro f g h
  unfold extD at h
  split at h
  · rename_i hf
    obtain rfl := Nat.eq_of_beq_eq_true hf
    cases h
    exact sortedI_ok
  · split at h
    · rename_i hf
      obtain rfl := Nat.eq_of_beq_eq_true hf
      cases h
      exact clone_ok
    · cases h
end Go.Proofs.Ytaclakglglicdaa.Mir
