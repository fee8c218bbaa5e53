/- What is told by hand in the runs of the disk's laws. -/
import Derived.Test.YtjhemkeilagnnaaMirClone
import Derived.Test.YtjhemkeilagnnaaMirSorted
namespace Go.Proofs.Ytjhemkeilagnnaa.Mir
open Go Go.RowKit

def extDk : Ext := fun f => match Nat.beq f 62 with
  | true => some (sortedG 77 3 sortI)
  | false => match Nat.beq f 57 with
    | true => some cloneG
    | false => none
theorem extDk_ok : ∀ f g, extDk f = some g → Sound Try.prog f g := by
  intro f g h
  unfold extDk at h
  split at h
  · rename_i hf
    obtain rfl := Nat.eq_of_beq_eq_true hf
    cases h
    exact sortedI_ok
  · split at h
    · rename_i hf
      obtain rfl := Nat.eq_of_beq_eq_true hf
      cases h
      exact clone_ok
    · cases h
end Go.Proofs.Ytjhemkeilagnnaa.Mir
