/- KvKnown: its walk, by the machine: the chapter's example apart. -/
import Derived.Test.YtaclakglglicdaaGreatMirExtK
namespace Go.Proofs.YtaclakglglicdaaGreat
open Go Go.RowKit

theorem kvEx_run : Mir.isTrue (Mir.runF Tryz.prog Mir.extK 60 27 [] []) = true := by kernel_rfl
def extKv : Mir.Ext := fun f => match Nat.beq f 27 with
  | true => some Mir.trueG
  | false => Mir.extK f
theorem extKv_ok : ∀ f g, extKv f = some g → Mir.Sound Tryz.prog f g := by
  intro f g h
  unfold extKv at h
  split at h
  · rename_i hf
    obtain rfl := Nat.eq_of_beq_eq_true hf
    cases h
    exact Mir.true_ok Mir.good Mir.extK_ok (by rw [← Mir.runF_eq]; exact kvEx_run)
  · exact Mir.extK_ok f g h
end Go.Proofs.YtaclakglglicdaaGreat
