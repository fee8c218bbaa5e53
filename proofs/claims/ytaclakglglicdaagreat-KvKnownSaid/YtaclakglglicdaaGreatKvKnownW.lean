/- KvKnown: its walk, by the machine. -/
import Derived.Test.YtaclakglglicdaaGreatKvKnown
namespace Go.Proofs.YtaclakglglicdaaGreat
open Go Go.RowKit

theorem kvKnown_run : Mir.isTrue (Mir.runF Tryz.prog extKv 60 5 [] []) = true := by kernel_rfl
theorem kvKnown_walk (w : World) : Calls Tryz.prog 5 #[] w fun e w' => e = .returned (.bool true) ∧ Below w.heap.size w w' :=
  (Mir.closed Mir.good extKv_ok (by rw [← Mir.runF_eq]; exact kvKnown_run) w).mono fun _ _ h => ⟨h.1, h.2.below (Nat.le_refl _) (fun _ _ h => h)⟩
end Go.Proofs.YtaclakglglicdaaGreat
