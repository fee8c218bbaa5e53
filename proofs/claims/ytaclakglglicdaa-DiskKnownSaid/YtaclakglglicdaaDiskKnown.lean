/- DiskKnown: its walk, by the machine. -/
import Derived.Test.YtaclakglglicdaaMirExtD
namespace Go.Proofs.Ytaclakglglicdaa
open Go Go.RowKit

theorem diskKnown_run : Mir.isTrue (Mir.runF Try.prog Mir.extD 60 4 [] []) = true := by kernel_rfl
theorem diskKnown_walk (w : World) : Calls Try.prog 4 #[] w fun e w' => e = .returned (.bool true) ∧ Below w.heap.size w w' :=
  (Mir.closed Mir.good Mir.extD_ok (by rw [← Mir.runF_eq]; exact diskKnown_run) w).mono fun _ _ h => ⟨h.1, h.2.below (Nat.le_refl _) (fun _ _ h => h)⟩
end Go.Proofs.Ytaclakglglicdaa
