/- SignalsKnown: its walk, by the machine. -/
import Derived.Test.YtaclakglglicdaaMirExtS
namespace Go.Proofs.Ytaclakglglicdaa
open Go Go.RowKit

theorem signalsKnown_run : Mir.isTrue (Mir.runF Try.prog Mir.extS 60 7 [] []) = true := by kernel_rfl
theorem signalsKnown_walk (w : World) : Calls Try.prog 7 #[] w fun e w' => e = .returned (.bool true) ∧ Below w.heap.size w w' :=
  (Mir.closed Mir.good Mir.extS_ok (by rw [← Mir.runF_eq]; exact signalsKnown_run) w).mono fun _ _ h => ⟨h.1, h.2.below (Nat.le_refl _) (fun _ _ h => h)⟩
end Go.Proofs.Ytaclakglglicdaa
