/- PlanKnown: its walk, by the machine. -/
import Derived.Test.YtaclakglglicdaaMirFast
namespace Go.Proofs.Ytaclakglglicdaa
open Go Go.RowKit

theorem planKnown_run : Mir.isTrue (Mir.runF Try.prog Mir.noExt 60 6 [] []) = true := by kernel_rfl
theorem planKnown_walk (w : World) : Calls Try.prog 6 #[] w fun e w' => e = .returned (.bool true) ∧ Below w.heap.size w w' :=
  (Mir.closed Mir.good (Mir.noExt_ok _) (by rw [← Mir.runF_eq]; exact planKnown_run) w).mono fun _ _ h => ⟨h.1, h.2.below (Nat.le_refl _) (fun _ _ h => h)⟩
end Go.Proofs.Ytaclakglglicdaa
