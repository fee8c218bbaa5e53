/- What is told by hand in the runs of the signals' laws. -/
import Derived.Test.YtaclakglglicdaaMirSortS
namespace Go.Proofs.Ytaclakglglicdaa.Mir
open Go Go.RowKit

def extS : Ext := fun f => match Nat.beq f 82 with
  | true => some (sortedG 108 9 sortS)
  | false => none
theorem extS_ok : ∀ f g, extS f = some g → Sound Try.prog f g := by
  intro f g h
  unfold extS at h
  split at h
  · rename_i hf
    obtain rfl := Nat.eq_of_beq_eq_true hf
    cases h
    exact sortedS_ok
  · cases h
end Go.Proofs.Ytaclakglglicdaa.Mir
